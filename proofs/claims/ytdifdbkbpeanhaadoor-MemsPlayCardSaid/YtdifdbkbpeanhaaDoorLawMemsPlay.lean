/- Whatever facts are put, at whatever heights, frozen or not, each answer, how many there are, and how many bytes, and all that is told from any key and time on, as far as is asked, are the chapter's, in new memory: for every input, no condition but what the listed variables hold. -/
import Derived.Test.YtdifdbkbpeanhaaDoorMemBoth
import Derived.Test.YtdifdbkbpeanhaaDoorMemGot
import Derived.Test.YtdifdbkbpeanhaaDoorMemFacts
import Derived.Test.YtdifdbkbpeanhaaDoorMLaid
import Derived.Test.YtdifdbkbpeanhaaDoorBookFt
import Derived.Test.YtdifdbkbpeanhaaDoorSheets
import Derived.Test.YtdifdbkbpeanhaaDoorLiftD
import Derived.Test.YtdifdbkbpeanhaaDoorCards
import Derived.Test.YtdifdbkbpeanhaaDoorTie
import Derived.LaidMore
import Derived.SevenTiedAt
import Derived.Lib.LaidTab
import Derived.Deep.CutRange
import Derived.Deep.RegionHeld3
import Derived.Deep.RegionWith
set_option linter.unusedSimpArgs false
set_option linter.unusedVariables false
namespace Go.Proofs.YtdifdbkbpeanhaaDoor.lawMemsPlay
open Go Go.RowKit Herb Go.ChangeShapes Go.WideShapes Go.ChangeAt

set_option maxRecDepth 100000 in
set_option maxHeartbeats 6400000 in
theorem walk (w : World) (A : Option Addr) (c : Nat) (ls : List LaM) (hrd : Rd w 8 A ls.length (lmsC ls)) (hls : ∀ y ∈ ls, y.fit) (key vl : ByteArray) (va se li ki : Nat) (hva : va < 4294967296) (hse : se < 18446744073709551616) (hli : li < 18446744073709551616) (hki : ki < 256) (most : Nat) (hmost : most < 256) :
    Calls Tryd.prog 3 #[.slice A ls.length c, .agg #[.string key, .int .u32 (va : Int), .int .u64 (se : Int), .int .u64 (li : Int), .int .u8 (ki : Int), .string vl], .int .u8 (most : Int)] w fun e w' => e = .returned (.bool true) ∧ Below w.heap.size w w' := by
  clear hse hli hki
  obtain ⟨n, hn⟩ : ∃ n, ls.length = n := ⟨_, rfl⟩
  rw [hn] at hrd ⊢
  replace hn := Lib.hid hn
  replace hls := Lib.hid hls
  have hb := (Below.refl w.heap.size w).alloc (Nat.le_refl _) (.cells #[.string key, .int .u32 (va : Int), .int .u64 (se : Int), .int .u64 (li : Int), .int .u8 (ki : Int), .string vl] 27)
  have kF := Blk.new w 27 #[.string key, .int .u32 (va : Int), .int .u64 (se : Int), .int .u64 (li : Int), .int .u8 (ki : Int), .string vl]
  obtain ⟨w0, hw0⟩ : ∃ w0, w.alloc (.cells #[.string key, .int .u32 (va : Int), .int .u64 (se : Int), .int .u64 (li : Int), .int .u8 (ki : Int), .string vl] 27) = w0 := ⟨_, rfl⟩
  rw [hw0] at hb kF
  have hs0 : w0.heap.size = w.heap.size + 1 := by rw [← hw0]; simp
  replace hw0 := Lib.hid hw0
  have cF := kF.cell
  have hrd0 := hrd.below hb
  go_enter Tryd.func3, Tryd.ntmps3
  by_cases hbig : 60 < n
  · have d1 : decide ((60 : Int) < (n : Int)) = true := decide_eq_true (by omega)
    go_wp2_with (first | rw [hw0.out] | fail)
    refine (lives_any _).mono ?_
    rintro _ w1 ⟨rfl, b1⟩
    go_wp2
    go_ret
    exact ⟨rfl, hb.trans (b1.mono hb.size)⟩
  have d1 : decide ((60 : Int) < (n : Int)) = false := decide_eq_false (by omega)
  have hn60 : n ≤ 60 := by omega
  clear hbig
  by_cases hg : 1000 < key.size ∨ 1000 < vl.size
  · have pg := greatFt_any w0 ⟨key, va, se, li, ki, vl⟩ true (by simpa using hg)
    clear hg
    go_wp2_with (first | rw [hw0.out] | fail)
    refine pg.mono ?_
    rintro _ w1 ⟨rfl, b1⟩
    have hb1 := hb.trans (b1.mono hb.size)
    go_wp2_with fail
    refine (lives_any _).mono ?_
    rintro _ w2 ⟨rfl, b2⟩
    go_wp2
    go_ret
    exact ⟨rfl, hb1.trans (b2.mono hb1.size)⟩
  have pg := greatFt_any w0 ⟨key, va, se, li, ki, vl⟩ false (by simpa using hg)
  have hk1000 : key.size ≤ 1000 := by omega
  clear hg
  go_wp2_with (first | rw [hw0.out] | fail)
  refine pg.mono ?_
  rintro _ w1 ⟨rfl, b1⟩
  go_wp2_with fail
  refine (mnew_any w1).mono ?_
  rintro _ w2 ⟨q, p, g0, rfl, m0, b2⟩
  go_wp2_with fail
  refine (rnew_any w2).mono ?_
  rintro _ w3 ⟨rfl, r0, b3⟩
  obtain ⟨r, hr⟩ : ∃ r, w2.heap.size = r := ⟨_, rfl⟩
  have hbo : Both w3 w1.heap.size q p g0 none 0 MSt.none r none 0 (toldB MSt.none) false := by
    have hm := MemAt.below m0 b3
    refine ⟨hm, ⟨?_, r0.row.mono b2.size, by rw [← hr]; exact b2.size⟩, fun k hk1 hk2 => ?_⟩
    · rw [← hr]; exact r0.box
    · have := (MemAt.blocks m0 hk1).2.1
      rcases hk2 with rfl | hk2
      · omega
      · cases hk2
  have hb3 : Below w1.heap.size w1 w3 := b2.trans (b3.mono b2.size)
  have hb01 := hb.trans (b1.mono hb.size)
  have kF1 := kF.below b1 kF.lt
  have hrd1 := hrd0.below b1
  rw [hr]
  replace hr := Lib.hid hr
  clear cF pg m0 r0 b2 b3 hrd0 kF b1 hrd
  go_wp2
  go_loopw [9] (fun i wr => ∃ (k g cap : Nat) (Am : Option Addr) (s : MSt) (Ar : Option Addr) (cr : Nat) (fr : Bool), k ≤ n ∧ i = .int .i64 (k : Int) ∧ Both wr w1.heap.size q p g Am cap s r Ar cr (toldB s) fr ∧ Hid (MSame s k) ∧ Below w1.heap.size w1 wr) (fun i _ => n - (intOf i).toNat)
  case atStart => exact ⟨0, g0, 0, none, MSt.none, none, 0, false, by omega, rfl, hbo, Lib.hid MSame.none, hb3⟩
  case round =>
    clear hbo hb3
    obtain ⟨k, g, cap, Am, s, Ar, cr, fr, hk, rfl, hbo, ok, hbel⟩ := hrel
    by_cases hlt : k < n
    · obtain ⟨b, off, y, rfl, hy, c0, c1, c2, c3, c4, c5, c6, c7⟩ := lms_atP (hrd1.below hbel) hn.out hlt
      have hfit := hls.out y (List.mem_of_getElem? hy)
      have hrows := fun W (hW : Below w1.heap.size w1 W) => lms_atP (hrd1.below hW) hn.out hlt
      obtain ⟨⟨yk, yva, yse, yli, yki, yv⟩, yh, yz⟩ := y
      simp only at c0 c1 c2 c3 c4 c5 c6 c7
      have cells : ∀ W, Below w1.heap.size w1 W → W.cell? ⟨b, off + k * 8, none⟩ = some (.string yk) ∧ W.cell? ⟨b, off + k * 8 + 1, none⟩ = some (.int .u32 (yva : Int)) ∧ W.cell? ⟨b, off + k * 8 + 2, none⟩ = some (.int .u64 (yse : Int)) ∧ W.cell? ⟨b, off + k * 8 + 3, none⟩ = some (.int .u64 (yli : Int)) ∧ W.cell? ⟨b, off + k * 8 + 4, none⟩ = some (.int .u8 (yki : Int)) ∧ W.cell? ⟨b, off + k * 8 + 5, none⟩ = some (.string yv) ∧ W.cell? ⟨b, off + k * 8 + 6, none⟩ = some (.int .i64 yh) ∧ W.cell? ⟨b, off + k * 8 + 7, none⟩ = some (.bool yz) := fun W hW => by
        obtain ⟨b', off', y', he, hy', h⟩ := hrows W hW
        cases he
        rw [hy] at hy'
        cases hy'
        exact h
      replace cells := Lib.hid cells
      have hdk : decide (k < n) = true := by simpa using hlt
      clear hrows
      by_cases hg : 1000 < yk.size ∨ 1000 < yv.size
      · have pg := greatFt_any wr ⟨yk, yva, yse, yli, yki, yv⟩ true (by simpa using hg)
        clear hg hfit
        go_wp2_with fail
        refine pg.mono ?_
        clear pg
        rintro _ w4 ⟨rfl, b4⟩
        go_wp2_with fail
        refine (lives_any _).mono ?_
        rintro _ w5 ⟨rfl, b5⟩
        have b23 := hbel.trans (b4.mono hbel.size)
        have bb := b23.trans (b5.mono b23.size)
        go_wp2
        go_ret
        exact ⟨rfl, hb01.trans (bb.mono hb01.size)⟩
      · have pg := greatFt_any wr ⟨yk, yva, yse, yli, yki, yv⟩ false (by simpa using hg)
        have hv : yv.size ≤ 1000 := by omega
        clear hg
        go_wp2_with fail
        refine pg.mono ?_
        clear pg c0 c1 c2 c3 c4 c5 c6 c7
        rintro _ w4 ⟨rfl, b4⟩
        have hb4 := hbel.trans (b4.mono hbel.size)
        have hbo4 := hbo.below b4
        obtain ⟨c0, c1, c2, c3, c4, c5, c6, c7⟩ := cells.out w4 hb4
        clear hbo hbel b4 hy
        cases yz
        case true =>
          go_wp2_with fail
          refine (both_freeze hbo4 hb4.size).mono ?_
          rintro _ w5 ⟨rfl, kr5, hboX, b5, b5'⟩
          have cr5 := kr5.cell
          have fr5 := kr5.frozen
          have hbX := hb4.trans b5'
          obtain ⟨wX, hwX⟩ : ∃ wX, w5.setCell ⟨r, 1, none⟩ (.bool true) = wX := ⟨_, rfl⟩
          rw [hwX] at hboX hbX
          replace hwX := Lib.hid hwX
          clear hbo4 hb4 b5 b5' kr5 c7
          have hstep := ok.out.step ⟨yk, yva, yse, yli, yki, yv⟩ yh true hfit.1 hv
          have okk := ok.out
          obtain ⟨R, hR⟩ : ∃ R, stepB s ⟨yk, yva, yse, yli, yki, yv⟩ yh true = R := ⟨_, rfl⟩
          rw [hR] at hstep
          obtain ⟨e1, s2⟩ := R
          obtain ⟨hst, hrf⟩ := hstep
          have hboD := hboX.below (Below.refl _ wX).drew
          have pm := both_mput hboD hbX.size okk.ok (by omega) ⟨yk, yva, yse, yli, yki, yv⟩ hfit.1 hv yh
          rw [hR] at pm
          have hLl : (toldB s).length ≤ 1000 := by have h1 := okk.len; have h2 := okk.ok.few; omega
          have pr := fun W g' A' cap' (hW : Both W w1.heap.size q p g' A' cap' s2 r Ar cr (toldB s) true) (hb : w1.heap.size ≤ W.heap.size) => both_rput hW hb hLl ⟨yk, yva, yse, yli, yki, yv⟩ yh
          simp only [hrf] at pr
          have hl2 := hst.len
          have hfew := hst.ok.few
          have hall2 := hst.all
          have hbb2 := hst.b
          obtain ⟨m, hm⟩ : ∃ m, s2.fs.length = m := ⟨_, rfl⟩
          rw [hm] at hl2 hfew
          obtain ⟨L2, hL2⟩ : ∃ L2, toldB s2 = L2 := ⟨_, rfl⟩
          rw [hL2] at hl2 hall2 hbb2 pr
          obtain ⟨z, hz⟩ : ∃ z, sizesT L2 = z := ⟨_, rfl⟩
          rw [hz] at hbb2
          have hld : ∀ X, Below w1.heap.size w1 X → X.rangeAt b (off + k * 8) [.string yk, .int .u32 (yva : Int), .int .u64 (yse : Int), .int .u64 (yli : Int), .int .u8 (yki : Int), .string yv] := fun V hV => by
            obtain ⟨d0, d1, d2, d3, d4, d5, _, _⟩ := cells.out V hV
            intro j u hu
            match j, hu with
            | 0, hu => simpa [d0] using hu
            | 1, hu => simpa [d1] using hu
            | 2, hu => simpa [d2] using hu
            | 3, hu => simpa [d3] using hu
            | 4, hu => simpa [d4] using hu
            | 5, hu => simpa [d5] using hu
            | j + 6, hu => simp at hu
          have hh : ∀ X, Below w1.heap.size w1 X → X.cell? ⟨b, off + k * 8 + 6, none⟩ = some (.int .i64 yh) := fun V hV => (cells.out V hV).2.2.2.2.2.2.1
          have hu := Tryd.underlying27
          have hi := fact_size
          have hfol : Tryd.prog.follows .mixedOrders = true := by kernel_rfl
          have hS0 : Below w1.heap.size w1 wX.drew := hbX.drew
          replace hst := Lib.hid hst
          replace hrf := Lib.hid hrf
          replace hR := Lib.hid hR
          replace hld := Lib.hid hld
          replace hh := Lib.hid hh
          replace hL2 := Lib.hid hL2
          replace hz := Lib.hid hz
          replace hm := Lib.hid hm
          replace hall2 := Lib.hid hall2
          replace pm := Lib.hid pm
          replace pr := Lib.hid pr
          clear c0 c1 c2 c3 c4 c5 c6 hfit hv hboD hboX okk ok
          go_wp2_with (first | rw [hwX.out] | fail)
          refine wp_region_held (S := fun X => Below w1.heap.size w1 X) hfol ?_
          refine wpAnyH_take_at (i := 0) (v := .pointer (some ⟨q, 0, none⟩)) 48 rfl (by kernel_rfl) (by kernel_rfl) (by kernel_rfl) (by kernel_rfl) (fun _ _ _ h => h) (.inl ⟨by kernel_rfl, fun W hW => by go_simp⟩) hS0 ?_
          try simp only [List.setIfInBounds_toArray, List.set_cons_zero, List.set_cons_succ]
          refine wpAnyH_take_at (i := 1) (v := .slice (some ⟨b, off, none⟩) n c) 49 rfl (by kernel_rfl) (by kernel_rfl) (by kernel_rfl) (by kernel_rfl) (fun _ _ _ h => h) (.inl ⟨by kernel_rfl, fun W hW => by go_simp⟩) hS0 ?_
          try simp only [List.setIfInBounds_toArray, List.set_cons_zero, List.set_cons_succ]
          refine wpAnyH_take_at (i := 2) (v := .int .i64 (k : Int)) 50 rfl (by kernel_rfl) (by kernel_rfl) (by kernel_rfl) (by kernel_rfl) (fun _ _ _ h => h) (.inl ⟨by kernel_rfl, fun W hW => by go_simp⟩) hS0 ?_
          try simp only [List.setIfInBounds_toArray, List.set_cons_zero, List.set_cons_succ]
          refine wpAnyH_take_at (i := 3) (v := .pointer (some ⟨b, off + k * 8, none⟩)) 51 rfl (by kernel_rfl) (by kernel_rfl) (by kernel_rfl) (by kernel_rfl) (fun _ _ _ h => h) (.inl ⟨by kernel_rfl, fun W hW => by go_simp⟩) hS0 ?_
          try simp only [List.setIfInBounds_toArray, List.set_cons_zero, List.set_cons_succ]
          refine wpAnyH_take_at (i := 4) (v := .pointer (some ⟨b, off + k * 8, none⟩)) 52 rfl (by kernel_rfl) (by kernel_rfl) (by kernel_rfl) (by kernel_rfl) (fun _ _ _ h => h) (.inl ⟨by kernel_rfl, fun W hW => by go_simp⟩) hS0 ?_
          try simp only [List.setIfInBounds_toArray, List.set_cons_zero, List.set_cons_succ]
          refine wpAnyH_take_at (i := 5) (v := .agg #[.string yk, .int .u32 (yva : Int), .int .u64 (yse : Int), .int .u64 (yli : Int), .int .u8 (yki : Int), .string yv]) 53 rfl (by kernel_rfl) (by kernel_rfl) (by kernel_rfl) (by kernel_rfl) (fun _ _ _ h => h) (yieldsIf_load_mid (by kernel_rfl) 27 (.tmp 52) rfl b (off + k * 8) rfl [.string yk, .int .u32 (yva : Int), .int .u64 (yse : Int), .int .u64 (yli : Int), .int .u8 (yki : Int), .string yv] _ hld.out hu rfl hi) hS0 ?_
          try simp only [List.setIfInBounds_toArray, List.set_cons_zero, List.set_cons_succ]
          refine wpAnyH_take_at (i := 6) (v := .slice (some ⟨b, off, none⟩) n c) 54 rfl (by kernel_rfl) (by kernel_rfl) (by kernel_rfl) (by kernel_rfl) (fun _ _ _ h => h) (.inl ⟨by kernel_rfl, fun W hW => by go_simp⟩) hS0 ?_
          try simp only [List.setIfInBounds_toArray, List.set_cons_zero, List.set_cons_succ]
          refine wpAnyH_take_at (i := 7) (v := .int .i64 (k : Int)) 55 rfl (by kernel_rfl) (by kernel_rfl) (by kernel_rfl) (by kernel_rfl) (fun _ _ _ h => h) (.inl ⟨by kernel_rfl, fun W hW => by go_simp⟩) hS0 ?_
          try simp only [List.setIfInBounds_toArray, List.set_cons_zero, List.set_cons_succ]
          refine wpAnyH_take_at (i := 8) (v := .pointer (some ⟨b, off + k * 8, none⟩)) 56 rfl (by kernel_rfl) (by kernel_rfl) (by kernel_rfl) (by kernel_rfl) (fun _ _ _ h => h) (.inl ⟨by kernel_rfl, fun W hW => by go_simp⟩) hS0 ?_
          try simp only [List.setIfInBounds_toArray, List.set_cons_zero, List.set_cons_succ]
          refine wpAnyH_take_at (i := 9) (v := .pointer (some ⟨b, off + k * 8 + 6, none⟩)) 57 rfl (by kernel_rfl) (by kernel_rfl) (by kernel_rfl) (by kernel_rfl) (fun _ _ _ h => h) (.inl ⟨by kernel_rfl, fun W hW => by go_simp⟩) hS0 ?_
          try simp only [List.setIfInBounds_toArray, List.set_cons_zero, List.set_cons_succ]
          refine wpAnyH_take_at (i := 10) (v := .int .i64 yh) 58 rfl (by kernel_rfl) (by kernel_rfl) (by kernel_rfl) (by kernel_rfl) (fun _ _ _ h => h) (.inl ⟨by kernel_rfl, fun W hW => by have hx1 := hh.out W hW; go_simp⟩) hS0 ?_
          try simp only [List.setIfInBounds_toArray, List.set_cons_zero, List.set_cons_succ]
          refine wpAnyH_take_at (i := 12) (v := .pointer (some ⟨r, 0, none⟩)) 60 rfl (by kernel_rfl) (by kernel_rfl) (by kernel_rfl) (by kernel_rfl) (fun _ _ _ h => h) (.inl ⟨by kernel_rfl, fun W hW => by go_simp⟩) hS0 ?_
          try simp only [List.setIfInBounds_toArray, List.set_cons_zero, List.set_cons_succ]
          refine wpAnyH_take_at (i := 13) (v := .slice (some ⟨b, off, none⟩) n c) 61 rfl (by kernel_rfl) (by kernel_rfl) (by kernel_rfl) (by kernel_rfl) (fun _ _ _ h => h) (.inl ⟨by kernel_rfl, fun W hW => by go_simp⟩) hS0 ?_
          try simp only [List.setIfInBounds_toArray, List.set_cons_zero, List.set_cons_succ]
          refine wpAnyH_take_at (i := 14) (v := .int .i64 (k : Int)) 62 rfl (by kernel_rfl) (by kernel_rfl) (by kernel_rfl) (by kernel_rfl) (fun _ _ _ h => h) (.inl ⟨by kernel_rfl, fun W hW => by go_simp⟩) hS0 ?_
          try simp only [List.setIfInBounds_toArray, List.set_cons_zero, List.set_cons_succ]
          refine wpAnyH_take_at (i := 15) (v := .pointer (some ⟨b, off + k * 8, none⟩)) 63 rfl (by kernel_rfl) (by kernel_rfl) (by kernel_rfl) (by kernel_rfl) (fun _ _ _ h => h) (.inl ⟨by kernel_rfl, fun W hW => by go_simp⟩) hS0 ?_
          try simp only [List.setIfInBounds_toArray, List.set_cons_zero, List.set_cons_succ]
          refine wpAnyH_take_at (i := 16) (v := .pointer (some ⟨b, off + k * 8, none⟩)) 64 rfl (by kernel_rfl) (by kernel_rfl) (by kernel_rfl) (by kernel_rfl) (fun _ _ _ h => h) (.inl ⟨by kernel_rfl, fun W hW => by go_simp⟩) hS0 ?_
          try simp only [List.setIfInBounds_toArray, List.set_cons_zero, List.set_cons_succ]
          refine wpAnyH_take_at (i := 17) (v := .agg #[.string yk, .int .u32 (yva : Int), .int .u64 (yse : Int), .int .u64 (yli : Int), .int .u8 (yki : Int), .string yv]) 65 rfl (by kernel_rfl) (by kernel_rfl) (by kernel_rfl) (by kernel_rfl) (fun _ _ _ h => h) (yieldsIf_load_mid (by kernel_rfl) 27 (.tmp 64) rfl b (off + k * 8) rfl [.string yk, .int .u32 (yva : Int), .int .u64 (yse : Int), .int .u64 (yli : Int), .int .u8 (yki : Int), .string yv] _ hld.out hu rfl hi) hS0 ?_
          try simp only [List.setIfInBounds_toArray, List.set_cons_zero, List.set_cons_succ]
          refine wpAnyH_take_at (i := 18) (v := .slice (some ⟨b, off, none⟩) n c) 66 rfl (by kernel_rfl) (by kernel_rfl) (by kernel_rfl) (by kernel_rfl) (fun _ _ _ h => h) (.inl ⟨by kernel_rfl, fun W hW => by go_simp⟩) hS0 ?_
          try simp only [List.setIfInBounds_toArray, List.set_cons_zero, List.set_cons_succ]
          refine wpAnyH_take_at (i := 19) (v := .int .i64 (k : Int)) 67 rfl (by kernel_rfl) (by kernel_rfl) (by kernel_rfl) (by kernel_rfl) (fun _ _ _ h => h) (.inl ⟨by kernel_rfl, fun W hW => by go_simp⟩) hS0 ?_
          try simp only [List.setIfInBounds_toArray, List.set_cons_zero, List.set_cons_succ]
          refine wpAnyH_take_at (i := 20) (v := .pointer (some ⟨b, off + k * 8, none⟩)) 68 rfl (by kernel_rfl) (by kernel_rfl) (by kernel_rfl) (by kernel_rfl) (fun _ _ _ h => h) (.inl ⟨by kernel_rfl, fun W hW => by go_simp⟩) hS0 ?_
          try simp only [List.setIfInBounds_toArray, List.set_cons_zero, List.set_cons_succ]
          refine wpAnyH_take_at (i := 21) (v := .pointer (some ⟨b, off + k * 8 + 6, none⟩)) 69 rfl (by kernel_rfl) (by kernel_rfl) (by kernel_rfl) (by kernel_rfl) (fun _ _ _ h => h) (.inl ⟨by kernel_rfl, fun W hW => by go_simp⟩) hS0 ?_
          try simp only [List.setIfInBounds_toArray, List.set_cons_zero, List.set_cons_succ]
          refine wpAnyH_take_at (i := 22) (v := .int .i64 yh) 70 rfl (by kernel_rfl) (by kernel_rfl) (by kernel_rfl) (by kernel_rfl) (fun _ _ _ h => h) (.inl ⟨by kernel_rfl, fun W hW => by have hx1 := hh.out W hW; go_simp⟩) hS0 ?_
          try simp only [List.setIfInBounds_toArray, List.set_cons_zero, List.set_cons_succ]
          refine wpAnyH_ready (rs := [11]) (by kernel_rfl) (by simp) (AllReadyH.cons rfl (fun K' hK => ?_) AllReadyH.nil)
          go_simp
          go_at_call 9
          refine pm.out.mono ?_
          rintro _ w5 ⟨g5, A5, cap5, rfl, hbo5, b5⟩
          replace b5 : Below w1.heap.size w1 w5 := hS0.trans b5
          refine hK.out _ _ b5 (fun _ => ?_)
          clear hK K'
          try dsimp only [Act.put]
          try simp only [List.setIfInBounds_toArray, List.set_cons_zero, List.set_cons_succ]
          refine wpAnyH_ready (rs := [23]) (by kernel_rfl) (by simp) (AllReadyH.cons rfl (fun K' hK => ?_) AllReadyH.nil)
          go_simp
          go_at_call 10
          refine (pr.out w5 g5 A5 cap5 hbo5 b5.size).mono ?_
          rintro _ w6 ⟨Ar6, cr6, rfl, hbo6, b6⟩
          replace b6 : Below w1.heap.size w1 w6 := b5.trans b6
          clear hbo5
          refine hK.out _ _ b6 (fun _ => ?_)
          clear hK K'
          try dsimp only [Act.put]
          try simp only [List.setIfInBounds_toArray, List.set_cons_zero, List.set_cons_succ]
          have pl := mlen_any hbo6.m m hm.out
          have pb := mbytes_any hbo6.m
          have pk := rbytes_any w6 w1.heap.size r cr6 Ar6 L2 true hbo6.rf (by omega) hall2.out
          rw [hz.out] at pk
          rw [hbb2] at pb
          have hbx := hbo6.rf.box
          rw [hl2] at hbx
          have hbq : ∀ X, Below w6.heap.size w6 X → X.cell? ⟨r, 0, none⟩ = some (.slice Ar6 m cr6) ∧ X.cell? ⟨r, 1, none⟩ = some (.bool true) := fun X hX => by
            have h := (hbx.below hX hbx.lt).cell
            exact ⟨h 0, h 1⟩
          have pz := fun W (hW : Below w6.heap.size w6 W) => mfrozen_any (hbo6.below hW).m
          replace pl := Lib.hid pl
          replace pb := Lib.hid pb
          replace pk := Lib.hid pk
          replace pz := Lib.hid pz
          replace hbq := Lib.hid hbq
          replace hbb2 := Lib.hid hbb2
          replace hl2 := Lib.hid hl2
          refine wpAnyH_mono (S' := fun X => Below w6.heap.size w6 X) (fun X hX => b6.trans (hX.mono b6.size)) _ _ _ _ ?_
          have hS1 : Below w6.heap.size w6 w6 := Below.refl _ _
          clear hbx
          refine wpAnyH_take_at (i := 24) (v := .bool false) 72 rfl (by kernel_rfl) (by kernel_rfl) (by kernel_rfl) (by kernel_rfl) (fun _ _ _ h => h) (.inl ⟨by kernel_rfl, fun W hW => by go_simp⟩) hS1 ?_
          try simp only [List.setIfInBounds_toArray, List.set_cons_zero, List.set_cons_succ]
          refine wpAnyH_take_at (i := 25) (v := .bool false) 73 rfl (by kernel_rfl) (by kernel_rfl) (by kernel_rfl) (by kernel_rfl) (fun _ _ _ h => h) (.inl ⟨by kernel_rfl, fun W hW => by go_simp⟩) hS1 ?_
          try simp only [List.setIfInBounds_toArray, List.set_cons_zero, List.set_cons_succ]
          refine wpAnyH_take_at (i := 26) (v := .pointer (some ⟨q, 0, none⟩)) 74 rfl (by kernel_rfl) (by kernel_rfl) (by kernel_rfl) (by kernel_rfl) (fun _ _ _ h => h) (.inl ⟨by kernel_rfl, fun W hW => by go_simp⟩) hS1 ?_
          try simp only [List.setIfInBounds_toArray, List.set_cons_zero, List.set_cons_succ]
          refine wpAnyH_take_at (i := 28) (v := .pointer (some ⟨r, 0, none⟩)) 76 rfl (by kernel_rfl) (by kernel_rfl) (by kernel_rfl) (by kernel_rfl) (fun _ _ _ h => h) (.inl ⟨by kernel_rfl, fun W hW => by go_simp⟩) hS1 ?_
          try simp only [List.setIfInBounds_toArray, List.set_cons_zero, List.set_cons_succ]
          refine wpAnyH_take_at (i := 29) (v := .pointer (some ⟨r, 0, none⟩)) 77 rfl (by kernel_rfl) (by kernel_rfl) (by kernel_rfl) (by kernel_rfl) (fun _ _ _ h => h) (.inl ⟨by kernel_rfl, fun W hW => by go_simp⟩) hS1 ?_
          try simp only [List.setIfInBounds_toArray, List.set_cons_zero, List.set_cons_succ]
          refine wpAnyH_take_at (i := 30) (v := .pointer (some ⟨r, 0, none⟩)) 78 rfl (by kernel_rfl) (by kernel_rfl) (by kernel_rfl) (by kernel_rfl) (fun _ _ _ h => h) (.inl ⟨by kernel_rfl, fun W hW => by go_simp⟩) hS1 ?_
          try simp only [List.setIfInBounds_toArray, List.set_cons_zero, List.set_cons_succ]
          refine wpAnyH_take_at (i := 31) (v := .slice Ar6 m cr6) 79 rfl (by kernel_rfl) (by kernel_rfl) (by kernel_rfl) (by kernel_rfl) (fun _ _ _ h => h) (.inl ⟨by kernel_rfl, fun W hW => by have hx1 := (hbq.out W hW).1; have hx2 := (hbq.out W hW).2; go_simp⟩) hS1 ?_
          try simp only [List.setIfInBounds_toArray, List.set_cons_zero, List.set_cons_succ]
          refine wpAnyH_take_at (i := 32) (v := .int .i64 (m : Int)) 80 rfl (by kernel_rfl) (by kernel_rfl) (by kernel_rfl) (by kernel_rfl) (fun _ _ _ h => h) (.inl ⟨by kernel_rfl, fun W hW => by go_simp⟩) hS1 ?_
          try simp only [List.setIfInBounds_toArray, List.set_cons_zero, List.set_cons_succ]
          refine wpAnyH_ready (rs := [27]) (by kernel_rfl) (by simp) (AllReadyH.cons rfl (fun K' hK => ?_) AllReadyH.nil)
          go_simp
          go_at_call 11
          refine pl.out.mono ?_
          rintro _ _ ⟨rfl, rfl⟩
          refine hK.out _ _ hS1 (fun _ => ?_)
          clear hK K'
          try dsimp only [Act.put]
          try simp only [List.setIfInBounds_toArray, List.set_cons_zero, List.set_cons_succ]
          refine wpAnyH_take_at (i := 33) (v := .bool false) 81 rfl (by kernel_rfl) (by kernel_rfl) (by kernel_rfl) (by kernel_rfl) (fun _ _ _ h => h) (.inl ⟨by kernel_rfl, fun W hW => by go_simp⟩) hS1 ?_
          try simp only [List.setIfInBounds_toArray, List.set_cons_zero, List.set_cons_succ]
          refine wpAnyH_take_at (i := 34) (v := .bool false) 82 rfl (by kernel_rfl) (by kernel_rfl) (by kernel_rfl) (by kernel_rfl) (fun _ _ _ h => h) (.inl ⟨by kernel_rfl, fun W hW => by go_simp⟩) hS1 ?_
          try simp only [List.setIfInBounds_toArray, List.set_cons_zero, List.set_cons_succ]
          refine wpAnyH_take_at (i := 35) (v := .bool false) 83 rfl (by kernel_rfl) (by kernel_rfl) (by kernel_rfl) (by kernel_rfl) (fun _ _ _ h => h) (.inl ⟨by kernel_rfl, fun W hW => by go_simp⟩) hS1 ?_
          try simp only [List.setIfInBounds_toArray, List.set_cons_zero, List.set_cons_succ]
          refine wpAnyH_take_at (i := 36) (v := .pointer (some ⟨q, 0, none⟩)) 84 rfl (by kernel_rfl) (by kernel_rfl) (by kernel_rfl) (by kernel_rfl) (fun _ _ _ h => h) (.inl ⟨by kernel_rfl, fun W hW => by go_simp⟩) hS1 ?_
          try simp only [List.setIfInBounds_toArray, List.set_cons_zero, List.set_cons_succ]
          refine wpAnyH_take_at (i := 38) (v := .pointer (some ⟨r, 0, none⟩)) 86 rfl (by kernel_rfl) (by kernel_rfl) (by kernel_rfl) (by kernel_rfl) (fun _ _ _ h => h) (.inl ⟨by kernel_rfl, fun W hW => by go_simp⟩) hS1 ?_
          try simp only [List.setIfInBounds_toArray, List.set_cons_zero, List.set_cons_succ]
          refine wpAnyH_ready (rs := [37]) (by kernel_rfl) (by simp) (AllReadyH.cons rfl (fun K' hK => ?_) AllReadyH.nil)
          go_simp
          go_at_call 12
          refine pb.out.mono ?_
          rintro _ _ ⟨rfl, rfl⟩
          refine hK.out _ _ hS1 (fun _ => ?_)
          clear hK K'
          try dsimp only [Act.put]
          try simp only [List.setIfInBounds_toArray, List.set_cons_zero, List.set_cons_succ]
          refine wpAnyH_ready (rs := [39]) (by kernel_rfl) (by simp) (AllReadyH.cons rfl (fun K' hK => ?_) AllReadyH.nil)
          go_simp
          go_at_call 13
          refine pk.out.mono ?_
          rintro _ w7 ⟨rfl, b7⟩
          refine hK.out _ _ b7 (fun _ => ?_)
          clear hK K'
          try dsimp only [Act.put]
          try simp only [List.setIfInBounds_toArray, List.set_cons_zero, List.set_cons_succ]
          refine wpAnyH_take_at (i := 40) (v := .bool false) 88 rfl (by kernel_rfl) (by kernel_rfl) (by kernel_rfl) (by kernel_rfl) (fun _ _ _ h => h) (.inl ⟨by kernel_rfl, fun W hW => by go_simp⟩) b7 ?_
          try simp only [List.setIfInBounds_toArray, List.set_cons_zero, List.set_cons_succ]
          refine wpAnyH_take_at (i := 41) (v := .bool false) 89 rfl (by kernel_rfl) (by kernel_rfl) (by kernel_rfl) (by kernel_rfl) (fun _ _ _ h => h) (.inl ⟨by kernel_rfl, fun W hW => by go_simp⟩) b7 ?_
          try simp only [List.setIfInBounds_toArray, List.set_cons_zero, List.set_cons_succ]
          refine wpAnyH_take_at (i := 42) (v := .bool false) 90 rfl (by kernel_rfl) (by kernel_rfl) (by kernel_rfl) (by kernel_rfl) (fun _ _ _ h => h) (.inl ⟨by kernel_rfl, fun W hW => by go_simp⟩) b7 ?_
          try simp only [List.setIfInBounds_toArray, List.set_cons_zero, List.set_cons_succ]
          refine wpAnyH_take_at (i := 43) (v := .pointer (some ⟨q, 0, none⟩)) 91 rfl (by kernel_rfl) (by kernel_rfl) (by kernel_rfl) (by kernel_rfl) (fun _ _ _ h => h) (.inl ⟨by kernel_rfl, fun W hW => by go_simp⟩) b7 ?_
          try simp only [List.setIfInBounds_toArray, List.set_cons_zero, List.set_cons_succ]
          refine wpAnyH_take_at (i := 45) (v := .pointer (some ⟨r, 0, none⟩)) 93 rfl (by kernel_rfl) (by kernel_rfl) (by kernel_rfl) (by kernel_rfl) (fun _ _ _ h => h) (.inl ⟨by kernel_rfl, fun W hW => by go_simp⟩) b7 ?_
          try simp only [List.setIfInBounds_toArray, List.set_cons_zero, List.set_cons_succ]
          refine wpAnyH_take_at (i := 46) (v := .pointer (some ⟨r, 0, none⟩)) 94 rfl (by kernel_rfl) (by kernel_rfl) (by kernel_rfl) (by kernel_rfl) (fun _ _ _ h => h) (.inl ⟨by kernel_rfl, fun W hW => by go_simp⟩) b7 ?_
          try simp only [List.setIfInBounds_toArray, List.set_cons_zero, List.set_cons_succ]
          refine wpAnyH_take_at (i := 47) (v := .pointer (some ⟨r, 1, none⟩)) 95 rfl (by kernel_rfl) (by kernel_rfl) (by kernel_rfl) (by kernel_rfl) (fun _ _ _ h => h) (.inl ⟨by kernel_rfl, fun W hW => by go_simp⟩) b7 ?_
          try simp only [List.setIfInBounds_toArray, List.set_cons_zero, List.set_cons_succ]
          refine wpAnyH_take_at (i := 48) (v := .bool true) 96 rfl (by kernel_rfl) (by kernel_rfl) (by kernel_rfl) (by kernel_rfl) (fun _ _ _ h => h) (.inl ⟨by kernel_rfl, fun W hW => by have hx1 := (hbq.out W hW).1; have hx2 := (hbq.out W hW).2; go_simp⟩) b7 ?_
          try simp only [List.setIfInBounds_toArray, List.set_cons_zero, List.set_cons_succ]
          refine wpAnyH_ready (rs := [44]) (by kernel_rfl) (by simp) (AllReadyH.cons rfl (fun K' hK => ?_) AllReadyH.nil)
          go_simp
          go_at_call 14
          refine (pz.out w7 b7).mono ?_
          rintro _ _ ⟨rfl, rfl⟩
          refine hK.out _ _ b7 (fun _ => ?_)
          clear hK K'
          try dsimp only [Act.put]
          try simp only [List.setIfInBounds_toArray, List.set_cons_zero, List.set_cons_succ]
          refine wpAnyH_take_at (i := 49) (v := .bool false) 97 rfl (by kernel_rfl) (by kernel_rfl) (by kernel_rfl) (by kernel_rfl) (fun _ _ _ h => h) (.inl ⟨by kernel_rfl, fun W hW => by go_simp⟩) b7 ?_
          try simp only [List.setIfInBounds_toArray, List.set_cons_zero, List.set_cons_succ]
          refine wpAnyH_take_at (i := 50) (v := .bool false) 98 rfl (by kernel_rfl) (by kernel_rfl) (by kernel_rfl) (by kernel_rfl) (fun _ _ _ h => h) (.inl ⟨by kernel_rfl, fun W hW => by go_simp⟩) b7 ?_
          try simp only [List.setIfInBounds_toArray, List.set_cons_zero, List.set_cons_succ]
          refine wpAnyH_done (by kernel_rfl) ?_ _
          have hbo7 := hbo6.below b7
          have b17 : Below w1.heap.size w1 w7 := b6.trans (b7.mono b6.size)
          rw [← hL2.out] at hbo7
          clear hbo6 pl pb pk pz hbq pm pr
          go_wp2
          go_roundw
          case rel => exact ⟨k + 1, g5, cap5, A5, s2, Ar6, cr6, true, by omega, by go_num, hbo7, hst, b17⟩
          case measure => simp [intOf] <;> omega
        case false =>
          obtain ⟨wX, rfl⟩ : ∃ wX : World, wX = w4 := ⟨_, rfl⟩
          have hboX := hbo4
          have hbX := hb4
          clear hbo4 hb4
          have hstep := ok.out.step ⟨yk, yva, yse, yli, yki, yv⟩ yh fr hfit.1 hv
          have okk := ok.out
          obtain ⟨R, hR⟩ : ∃ R, stepB s ⟨yk, yva, yse, yli, yki, yv⟩ yh fr = R := ⟨_, rfl⟩
          rw [hR] at hstep
          obtain ⟨e1, s2⟩ := R
          obtain ⟨hst, hrf⟩ := hstep
          have hboD := hboX.below (Below.refl _ wX).drew
          have pm := both_mput hboD hbX.size okk.ok (by omega) ⟨yk, yva, yse, yli, yki, yv⟩ hfit.1 hv yh
          rw [hR] at pm
          have hLl : (toldB s).length ≤ 1000 := by have h1 := okk.len; have h2 := okk.ok.few; omega
          have pr := fun W g' A' cap' (hW : Both W w1.heap.size q p g' A' cap' s2 r Ar cr (toldB s) fr) (hb : w1.heap.size ≤ W.heap.size) => both_rput hW hb hLl ⟨yk, yva, yse, yli, yki, yv⟩ yh
          simp only [hrf] at pr
          have hl2 := hst.len
          have hfew := hst.ok.few
          have hall2 := hst.all
          have hbb2 := hst.b
          obtain ⟨m, hm⟩ : ∃ m, s2.fs.length = m := ⟨_, rfl⟩
          rw [hm] at hl2 hfew
          obtain ⟨L2, hL2⟩ : ∃ L2, toldB s2 = L2 := ⟨_, rfl⟩
          rw [hL2] at hl2 hall2 hbb2 pr
          obtain ⟨z, hz⟩ : ∃ z, sizesT L2 = z := ⟨_, rfl⟩
          rw [hz] at hbb2
          have hld : ∀ X, Below w1.heap.size w1 X → X.rangeAt b (off + k * 8) [.string yk, .int .u32 (yva : Int), .int .u64 (yse : Int), .int .u64 (yli : Int), .int .u8 (yki : Int), .string yv] := fun V hV => by
            obtain ⟨d0, d1, d2, d3, d4, d5, _, _⟩ := cells.out V hV
            intro j u hu
            match j, hu with
            | 0, hu => simpa [d0] using hu
            | 1, hu => simpa [d1] using hu
            | 2, hu => simpa [d2] using hu
            | 3, hu => simpa [d3] using hu
            | 4, hu => simpa [d4] using hu
            | 5, hu => simpa [d5] using hu
            | j + 6, hu => simp at hu
          have hh : ∀ X, Below w1.heap.size w1 X → X.cell? ⟨b, off + k * 8 + 6, none⟩ = some (.int .i64 yh) := fun V hV => (cells.out V hV).2.2.2.2.2.2.1
          have hu := Tryd.underlying27
          have hi := fact_size
          have hfol : Tryd.prog.follows .mixedOrders = true := by kernel_rfl
          have hS0 : Below w1.heap.size w1 wX.drew := hbX.drew
          replace hst := Lib.hid hst
          replace hrf := Lib.hid hrf
          replace hR := Lib.hid hR
          replace hld := Lib.hid hld
          replace hh := Lib.hid hh
          replace hL2 := Lib.hid hL2
          replace hz := Lib.hid hz
          replace hm := Lib.hid hm
          replace hall2 := Lib.hid hall2
          replace pm := Lib.hid pm
          replace pr := Lib.hid pr
          clear c0 c1 c2 c3 c4 c5 c6 hfit hv hboD hboX okk ok
          go_wp2_with fail
          refine wp_region_held (S := fun X => Below w1.heap.size w1 X) hfol ?_
          refine wpAnyH_take_at (i := 0) (v := .pointer (some ⟨q, 0, none⟩)) 48 rfl (by kernel_rfl) (by kernel_rfl) (by kernel_rfl) (by kernel_rfl) (fun _ _ _ h => h) (.inl ⟨by kernel_rfl, fun W hW => by go_simp⟩) hS0 ?_
          try simp only [List.setIfInBounds_toArray, List.set_cons_zero, List.set_cons_succ]
          refine wpAnyH_take_at (i := 1) (v := .slice (some ⟨b, off, none⟩) n c) 49 rfl (by kernel_rfl) (by kernel_rfl) (by kernel_rfl) (by kernel_rfl) (fun _ _ _ h => h) (.inl ⟨by kernel_rfl, fun W hW => by go_simp⟩) hS0 ?_
          try simp only [List.setIfInBounds_toArray, List.set_cons_zero, List.set_cons_succ]
          refine wpAnyH_take_at (i := 2) (v := .int .i64 (k : Int)) 50 rfl (by kernel_rfl) (by kernel_rfl) (by kernel_rfl) (by kernel_rfl) (fun _ _ _ h => h) (.inl ⟨by kernel_rfl, fun W hW => by go_simp⟩) hS0 ?_
          try simp only [List.setIfInBounds_toArray, List.set_cons_zero, List.set_cons_succ]
          refine wpAnyH_take_at (i := 3) (v := .pointer (some ⟨b, off + k * 8, none⟩)) 51 rfl (by kernel_rfl) (by kernel_rfl) (by kernel_rfl) (by kernel_rfl) (fun _ _ _ h => h) (.inl ⟨by kernel_rfl, fun W hW => by go_simp⟩) hS0 ?_
          try simp only [List.setIfInBounds_toArray, List.set_cons_zero, List.set_cons_succ]
          refine wpAnyH_take_at (i := 4) (v := .pointer (some ⟨b, off + k * 8, none⟩)) 52 rfl (by kernel_rfl) (by kernel_rfl) (by kernel_rfl) (by kernel_rfl) (fun _ _ _ h => h) (.inl ⟨by kernel_rfl, fun W hW => by go_simp⟩) hS0 ?_
          try simp only [List.setIfInBounds_toArray, List.set_cons_zero, List.set_cons_succ]
          refine wpAnyH_take_at (i := 5) (v := .agg #[.string yk, .int .u32 (yva : Int), .int .u64 (yse : Int), .int .u64 (yli : Int), .int .u8 (yki : Int), .string yv]) 53 rfl (by kernel_rfl) (by kernel_rfl) (by kernel_rfl) (by kernel_rfl) (fun _ _ _ h => h) (yieldsIf_load_mid (by kernel_rfl) 27 (.tmp 52) rfl b (off + k * 8) rfl [.string yk, .int .u32 (yva : Int), .int .u64 (yse : Int), .int .u64 (yli : Int), .int .u8 (yki : Int), .string yv] _ hld.out hu rfl hi) hS0 ?_
          try simp only [List.setIfInBounds_toArray, List.set_cons_zero, List.set_cons_succ]
          refine wpAnyH_take_at (i := 6) (v := .slice (some ⟨b, off, none⟩) n c) 54 rfl (by kernel_rfl) (by kernel_rfl) (by kernel_rfl) (by kernel_rfl) (fun _ _ _ h => h) (.inl ⟨by kernel_rfl, fun W hW => by go_simp⟩) hS0 ?_
          try simp only [List.setIfInBounds_toArray, List.set_cons_zero, List.set_cons_succ]
          refine wpAnyH_take_at (i := 7) (v := .int .i64 (k : Int)) 55 rfl (by kernel_rfl) (by kernel_rfl) (by kernel_rfl) (by kernel_rfl) (fun _ _ _ h => h) (.inl ⟨by kernel_rfl, fun W hW => by go_simp⟩) hS0 ?_
          try simp only [List.setIfInBounds_toArray, List.set_cons_zero, List.set_cons_succ]
          refine wpAnyH_take_at (i := 8) (v := .pointer (some ⟨b, off + k * 8, none⟩)) 56 rfl (by kernel_rfl) (by kernel_rfl) (by kernel_rfl) (by kernel_rfl) (fun _ _ _ h => h) (.inl ⟨by kernel_rfl, fun W hW => by go_simp⟩) hS0 ?_
          try simp only [List.setIfInBounds_toArray, List.set_cons_zero, List.set_cons_succ]
          refine wpAnyH_take_at (i := 9) (v := .pointer (some ⟨b, off + k * 8 + 6, none⟩)) 57 rfl (by kernel_rfl) (by kernel_rfl) (by kernel_rfl) (by kernel_rfl) (fun _ _ _ h => h) (.inl ⟨by kernel_rfl, fun W hW => by go_simp⟩) hS0 ?_
          try simp only [List.setIfInBounds_toArray, List.set_cons_zero, List.set_cons_succ]
          refine wpAnyH_take_at (i := 10) (v := .int .i64 yh) 58 rfl (by kernel_rfl) (by kernel_rfl) (by kernel_rfl) (by kernel_rfl) (fun _ _ _ h => h) (.inl ⟨by kernel_rfl, fun W hW => by have hx1 := hh.out W hW; go_simp⟩) hS0 ?_
          try simp only [List.setIfInBounds_toArray, List.set_cons_zero, List.set_cons_succ]
          refine wpAnyH_take_at (i := 12) (v := .pointer (some ⟨r, 0, none⟩)) 60 rfl (by kernel_rfl) (by kernel_rfl) (by kernel_rfl) (by kernel_rfl) (fun _ _ _ h => h) (.inl ⟨by kernel_rfl, fun W hW => by go_simp⟩) hS0 ?_
          try simp only [List.setIfInBounds_toArray, List.set_cons_zero, List.set_cons_succ]
          refine wpAnyH_take_at (i := 13) (v := .slice (some ⟨b, off, none⟩) n c) 61 rfl (by kernel_rfl) (by kernel_rfl) (by kernel_rfl) (by kernel_rfl) (fun _ _ _ h => h) (.inl ⟨by kernel_rfl, fun W hW => by go_simp⟩) hS0 ?_
          try simp only [List.setIfInBounds_toArray, List.set_cons_zero, List.set_cons_succ]
          refine wpAnyH_take_at (i := 14) (v := .int .i64 (k : Int)) 62 rfl (by kernel_rfl) (by kernel_rfl) (by kernel_rfl) (by kernel_rfl) (fun _ _ _ h => h) (.inl ⟨by kernel_rfl, fun W hW => by go_simp⟩) hS0 ?_
          try simp only [List.setIfInBounds_toArray, List.set_cons_zero, List.set_cons_succ]
          refine wpAnyH_take_at (i := 15) (v := .pointer (some ⟨b, off + k * 8, none⟩)) 63 rfl (by kernel_rfl) (by kernel_rfl) (by kernel_rfl) (by kernel_rfl) (fun _ _ _ h => h) (.inl ⟨by kernel_rfl, fun W hW => by go_simp⟩) hS0 ?_
          try simp only [List.setIfInBounds_toArray, List.set_cons_zero, List.set_cons_succ]
          refine wpAnyH_take_at (i := 16) (v := .pointer (some ⟨b, off + k * 8, none⟩)) 64 rfl (by kernel_rfl) (by kernel_rfl) (by kernel_rfl) (by kernel_rfl) (fun _ _ _ h => h) (.inl ⟨by kernel_rfl, fun W hW => by go_simp⟩) hS0 ?_
          try simp only [List.setIfInBounds_toArray, List.set_cons_zero, List.set_cons_succ]
          refine wpAnyH_take_at (i := 17) (v := .agg #[.string yk, .int .u32 (yva : Int), .int .u64 (yse : Int), .int .u64 (yli : Int), .int .u8 (yki : Int), .string yv]) 65 rfl (by kernel_rfl) (by kernel_rfl) (by kernel_rfl) (by kernel_rfl) (fun _ _ _ h => h) (yieldsIf_load_mid (by kernel_rfl) 27 (.tmp 64) rfl b (off + k * 8) rfl [.string yk, .int .u32 (yva : Int), .int .u64 (yse : Int), .int .u64 (yli : Int), .int .u8 (yki : Int), .string yv] _ hld.out hu rfl hi) hS0 ?_
          try simp only [List.setIfInBounds_toArray, List.set_cons_zero, List.set_cons_succ]
          refine wpAnyH_take_at (i := 18) (v := .slice (some ⟨b, off, none⟩) n c) 66 rfl (by kernel_rfl) (by kernel_rfl) (by kernel_rfl) (by kernel_rfl) (fun _ _ _ h => h) (.inl ⟨by kernel_rfl, fun W hW => by go_simp⟩) hS0 ?_
          try simp only [List.setIfInBounds_toArray, List.set_cons_zero, List.set_cons_succ]
          refine wpAnyH_take_at (i := 19) (v := .int .i64 (k : Int)) 67 rfl (by kernel_rfl) (by kernel_rfl) (by kernel_rfl) (by kernel_rfl) (fun _ _ _ h => h) (.inl ⟨by kernel_rfl, fun W hW => by go_simp⟩) hS0 ?_
          try simp only [List.setIfInBounds_toArray, List.set_cons_zero, List.set_cons_succ]
          refine wpAnyH_take_at (i := 20) (v := .pointer (some ⟨b, off + k * 8, none⟩)) 68 rfl (by kernel_rfl) (by kernel_rfl) (by kernel_rfl) (by kernel_rfl) (fun _ _ _ h => h) (.inl ⟨by kernel_rfl, fun W hW => by go_simp⟩) hS0 ?_
          try simp only [List.setIfInBounds_toArray, List.set_cons_zero, List.set_cons_succ]
          refine wpAnyH_take_at (i := 21) (v := .pointer (some ⟨b, off + k * 8 + 6, none⟩)) 69 rfl (by kernel_rfl) (by kernel_rfl) (by kernel_rfl) (by kernel_rfl) (fun _ _ _ h => h) (.inl ⟨by kernel_rfl, fun W hW => by go_simp⟩) hS0 ?_
          try simp only [List.setIfInBounds_toArray, List.set_cons_zero, List.set_cons_succ]
          refine wpAnyH_take_at (i := 22) (v := .int .i64 yh) 70 rfl (by kernel_rfl) (by kernel_rfl) (by kernel_rfl) (by kernel_rfl) (fun _ _ _ h => h) (.inl ⟨by kernel_rfl, fun W hW => by have hx1 := hh.out W hW; go_simp⟩) hS0 ?_
          try simp only [List.setIfInBounds_toArray, List.set_cons_zero, List.set_cons_succ]
          refine wpAnyH_ready (rs := [11]) (by kernel_rfl) (by simp) (AllReadyH.cons rfl (fun K' hK => ?_) AllReadyH.nil)
          go_simp
          go_at_call 9
          refine pm.out.mono ?_
          rintro _ w5 ⟨g5, A5, cap5, rfl, hbo5, b5⟩
          replace b5 : Below w1.heap.size w1 w5 := hS0.trans b5
          refine hK.out _ _ b5 (fun _ => ?_)
          clear hK K'
          try dsimp only [Act.put]
          try simp only [List.setIfInBounds_toArray, List.set_cons_zero, List.set_cons_succ]
          refine wpAnyH_ready (rs := [23]) (by kernel_rfl) (by simp) (AllReadyH.cons rfl (fun K' hK => ?_) AllReadyH.nil)
          go_simp
          go_at_call 10
          refine (pr.out w5 g5 A5 cap5 hbo5 b5.size).mono ?_
          rintro _ w6 ⟨Ar6, cr6, rfl, hbo6, b6⟩
          replace b6 : Below w1.heap.size w1 w6 := b5.trans b6
          clear hbo5
          refine hK.out _ _ b6 (fun _ => ?_)
          clear hK K'
          try dsimp only [Act.put]
          try simp only [List.setIfInBounds_toArray, List.set_cons_zero, List.set_cons_succ]
          have pl := mlen_any hbo6.m m hm.out
          have pb := mbytes_any hbo6.m
          have pk := rbytes_any w6 w1.heap.size r cr6 Ar6 L2 fr hbo6.rf (by omega) hall2.out
          rw [hz.out] at pk
          rw [hbb2] at pb
          have hbx := hbo6.rf.box
          rw [hl2] at hbx
          have hbq : ∀ X, Below w6.heap.size w6 X → X.cell? ⟨r, 0, none⟩ = some (.slice Ar6 m cr6) ∧ X.cell? ⟨r, 1, none⟩ = some (.bool fr) := fun X hX => by
            have h := (hbx.below hX hbx.lt).cell
            exact ⟨h 0, h 1⟩
          have pz := fun W (hW : Below w6.heap.size w6 W) => mfrozen_any (hbo6.below hW).m
          replace pl := Lib.hid pl
          replace pb := Lib.hid pb
          replace pk := Lib.hid pk
          replace pz := Lib.hid pz
          replace hbq := Lib.hid hbq
          replace hbb2 := Lib.hid hbb2
          replace hl2 := Lib.hid hl2
          refine wpAnyH_mono (S' := fun X => Below w6.heap.size w6 X) (fun X hX => b6.trans (hX.mono b6.size)) _ _ _ _ ?_
          have hS1 : Below w6.heap.size w6 w6 := Below.refl _ _
          clear hbx
          refine wpAnyH_take_at (i := 24) (v := .bool false) 72 rfl (by kernel_rfl) (by kernel_rfl) (by kernel_rfl) (by kernel_rfl) (fun _ _ _ h => h) (.inl ⟨by kernel_rfl, fun W hW => by go_simp⟩) hS1 ?_
          try simp only [List.setIfInBounds_toArray, List.set_cons_zero, List.set_cons_succ]
          refine wpAnyH_take_at (i := 25) (v := .bool false) 73 rfl (by kernel_rfl) (by kernel_rfl) (by kernel_rfl) (by kernel_rfl) (fun _ _ _ h => h) (.inl ⟨by kernel_rfl, fun W hW => by go_simp⟩) hS1 ?_
          try simp only [List.setIfInBounds_toArray, List.set_cons_zero, List.set_cons_succ]
          refine wpAnyH_take_at (i := 26) (v := .pointer (some ⟨q, 0, none⟩)) 74 rfl (by kernel_rfl) (by kernel_rfl) (by kernel_rfl) (by kernel_rfl) (fun _ _ _ h => h) (.inl ⟨by kernel_rfl, fun W hW => by go_simp⟩) hS1 ?_
          try simp only [List.setIfInBounds_toArray, List.set_cons_zero, List.set_cons_succ]
          refine wpAnyH_take_at (i := 28) (v := .pointer (some ⟨r, 0, none⟩)) 76 rfl (by kernel_rfl) (by kernel_rfl) (by kernel_rfl) (by kernel_rfl) (fun _ _ _ h => h) (.inl ⟨by kernel_rfl, fun W hW => by go_simp⟩) hS1 ?_
          try simp only [List.setIfInBounds_toArray, List.set_cons_zero, List.set_cons_succ]
          refine wpAnyH_take_at (i := 29) (v := .pointer (some ⟨r, 0, none⟩)) 77 rfl (by kernel_rfl) (by kernel_rfl) (by kernel_rfl) (by kernel_rfl) (fun _ _ _ h => h) (.inl ⟨by kernel_rfl, fun W hW => by go_simp⟩) hS1 ?_
          try simp only [List.setIfInBounds_toArray, List.set_cons_zero, List.set_cons_succ]
          refine wpAnyH_take_at (i := 30) (v := .pointer (some ⟨r, 0, none⟩)) 78 rfl (by kernel_rfl) (by kernel_rfl) (by kernel_rfl) (by kernel_rfl) (fun _ _ _ h => h) (.inl ⟨by kernel_rfl, fun W hW => by go_simp⟩) hS1 ?_
          try simp only [List.setIfInBounds_toArray, List.set_cons_zero, List.set_cons_succ]
          refine wpAnyH_take_at (i := 31) (v := .slice Ar6 m cr6) 79 rfl (by kernel_rfl) (by kernel_rfl) (by kernel_rfl) (by kernel_rfl) (fun _ _ _ h => h) (.inl ⟨by kernel_rfl, fun W hW => by have hx1 := (hbq.out W hW).1; have hx2 := (hbq.out W hW).2; go_simp⟩) hS1 ?_
          try simp only [List.setIfInBounds_toArray, List.set_cons_zero, List.set_cons_succ]
          refine wpAnyH_take_at (i := 32) (v := .int .i64 (m : Int)) 80 rfl (by kernel_rfl) (by kernel_rfl) (by kernel_rfl) (by kernel_rfl) (fun _ _ _ h => h) (.inl ⟨by kernel_rfl, fun W hW => by go_simp⟩) hS1 ?_
          try simp only [List.setIfInBounds_toArray, List.set_cons_zero, List.set_cons_succ]
          refine wpAnyH_ready (rs := [27]) (by kernel_rfl) (by simp) (AllReadyH.cons rfl (fun K' hK => ?_) AllReadyH.nil)
          go_simp
          go_at_call 11
          refine pl.out.mono ?_
          rintro _ _ ⟨rfl, rfl⟩
          refine hK.out _ _ hS1 (fun _ => ?_)
          clear hK K'
          try dsimp only [Act.put]
          try simp only [List.setIfInBounds_toArray, List.set_cons_zero, List.set_cons_succ]
          refine wpAnyH_take_at (i := 33) (v := .bool false) 81 rfl (by kernel_rfl) (by kernel_rfl) (by kernel_rfl) (by kernel_rfl) (fun _ _ _ h => h) (.inl ⟨by kernel_rfl, fun W hW => by go_simp⟩) hS1 ?_
          try simp only [List.setIfInBounds_toArray, List.set_cons_zero, List.set_cons_succ]
          refine wpAnyH_take_at (i := 34) (v := .bool false) 82 rfl (by kernel_rfl) (by kernel_rfl) (by kernel_rfl) (by kernel_rfl) (fun _ _ _ h => h) (.inl ⟨by kernel_rfl, fun W hW => by go_simp⟩) hS1 ?_
          try simp only [List.setIfInBounds_toArray, List.set_cons_zero, List.set_cons_succ]
          refine wpAnyH_take_at (i := 35) (v := .bool false) 83 rfl (by kernel_rfl) (by kernel_rfl) (by kernel_rfl) (by kernel_rfl) (fun _ _ _ h => h) (.inl ⟨by kernel_rfl, fun W hW => by go_simp⟩) hS1 ?_
          try simp only [List.setIfInBounds_toArray, List.set_cons_zero, List.set_cons_succ]
          refine wpAnyH_take_at (i := 36) (v := .pointer (some ⟨q, 0, none⟩)) 84 rfl (by kernel_rfl) (by kernel_rfl) (by kernel_rfl) (by kernel_rfl) (fun _ _ _ h => h) (.inl ⟨by kernel_rfl, fun W hW => by go_simp⟩) hS1 ?_
          try simp only [List.setIfInBounds_toArray, List.set_cons_zero, List.set_cons_succ]
          refine wpAnyH_take_at (i := 38) (v := .pointer (some ⟨r, 0, none⟩)) 86 rfl (by kernel_rfl) (by kernel_rfl) (by kernel_rfl) (by kernel_rfl) (fun _ _ _ h => h) (.inl ⟨by kernel_rfl, fun W hW => by go_simp⟩) hS1 ?_
          try simp only [List.setIfInBounds_toArray, List.set_cons_zero, List.set_cons_succ]
          refine wpAnyH_ready (rs := [37]) (by kernel_rfl) (by simp) (AllReadyH.cons rfl (fun K' hK => ?_) AllReadyH.nil)
          go_simp
          go_at_call 12
          refine pb.out.mono ?_
          rintro _ _ ⟨rfl, rfl⟩
          refine hK.out _ _ hS1 (fun _ => ?_)
          clear hK K'
          try dsimp only [Act.put]
          try simp only [List.setIfInBounds_toArray, List.set_cons_zero, List.set_cons_succ]
          refine wpAnyH_ready (rs := [39]) (by kernel_rfl) (by simp) (AllReadyH.cons rfl (fun K' hK => ?_) AllReadyH.nil)
          go_simp
          go_at_call 13
          refine pk.out.mono ?_
          rintro _ w7 ⟨rfl, b7⟩
          refine hK.out _ _ b7 (fun _ => ?_)
          clear hK K'
          try dsimp only [Act.put]
          try simp only [List.setIfInBounds_toArray, List.set_cons_zero, List.set_cons_succ]
          refine wpAnyH_take_at (i := 40) (v := .bool false) 88 rfl (by kernel_rfl) (by kernel_rfl) (by kernel_rfl) (by kernel_rfl) (fun _ _ _ h => h) (.inl ⟨by kernel_rfl, fun W hW => by go_simp⟩) b7 ?_
          try simp only [List.setIfInBounds_toArray, List.set_cons_zero, List.set_cons_succ]
          refine wpAnyH_take_at (i := 41) (v := .bool false) 89 rfl (by kernel_rfl) (by kernel_rfl) (by kernel_rfl) (by kernel_rfl) (fun _ _ _ h => h) (.inl ⟨by kernel_rfl, fun W hW => by go_simp⟩) b7 ?_
          try simp only [List.setIfInBounds_toArray, List.set_cons_zero, List.set_cons_succ]
          refine wpAnyH_take_at (i := 42) (v := .bool false) 90 rfl (by kernel_rfl) (by kernel_rfl) (by kernel_rfl) (by kernel_rfl) (fun _ _ _ h => h) (.inl ⟨by kernel_rfl, fun W hW => by go_simp⟩) b7 ?_
          try simp only [List.setIfInBounds_toArray, List.set_cons_zero, List.set_cons_succ]
          refine wpAnyH_take_at (i := 43) (v := .pointer (some ⟨q, 0, none⟩)) 91 rfl (by kernel_rfl) (by kernel_rfl) (by kernel_rfl) (by kernel_rfl) (fun _ _ _ h => h) (.inl ⟨by kernel_rfl, fun W hW => by go_simp⟩) b7 ?_
          try simp only [List.setIfInBounds_toArray, List.set_cons_zero, List.set_cons_succ]
          refine wpAnyH_take_at (i := 45) (v := .pointer (some ⟨r, 0, none⟩)) 93 rfl (by kernel_rfl) (by kernel_rfl) (by kernel_rfl) (by kernel_rfl) (fun _ _ _ h => h) (.inl ⟨by kernel_rfl, fun W hW => by go_simp⟩) b7 ?_
          try simp only [List.setIfInBounds_toArray, List.set_cons_zero, List.set_cons_succ]
          refine wpAnyH_take_at (i := 46) (v := .pointer (some ⟨r, 0, none⟩)) 94 rfl (by kernel_rfl) (by kernel_rfl) (by kernel_rfl) (by kernel_rfl) (fun _ _ _ h => h) (.inl ⟨by kernel_rfl, fun W hW => by go_simp⟩) b7 ?_
          try simp only [List.setIfInBounds_toArray, List.set_cons_zero, List.set_cons_succ]
          refine wpAnyH_take_at (i := 47) (v := .pointer (some ⟨r, 1, none⟩)) 95 rfl (by kernel_rfl) (by kernel_rfl) (by kernel_rfl) (by kernel_rfl) (fun _ _ _ h => h) (.inl ⟨by kernel_rfl, fun W hW => by go_simp⟩) b7 ?_
          try simp only [List.setIfInBounds_toArray, List.set_cons_zero, List.set_cons_succ]
          refine wpAnyH_take_at (i := 48) (v := .bool fr) 96 rfl (by kernel_rfl) (by kernel_rfl) (by kernel_rfl) (by kernel_rfl) (fun _ _ _ h => h) (.inl ⟨by kernel_rfl, fun W hW => by have hx1 := (hbq.out W hW).1; have hx2 := (hbq.out W hW).2; go_simp⟩) b7 ?_
          try simp only [List.setIfInBounds_toArray, List.set_cons_zero, List.set_cons_succ]
          refine wpAnyH_ready (rs := [44]) (by kernel_rfl) (by simp) (AllReadyH.cons rfl (fun K' hK => ?_) AllReadyH.nil)
          go_simp
          go_at_call 14
          refine (pz.out w7 b7).mono ?_
          rintro _ _ ⟨rfl, rfl⟩
          refine hK.out _ _ b7 (fun _ => ?_)
          clear hK K'
          try dsimp only [Act.put]
          try simp only [List.setIfInBounds_toArray, List.set_cons_zero, List.set_cons_succ]
          refine wpAnyH_take_at (i := 49) (v := .bool false) 97 rfl (by kernel_rfl) (by kernel_rfl) (by kernel_rfl) (by kernel_rfl) (fun _ _ _ h => h) (.inl ⟨by kernel_rfl, fun W hW => by go_simp⟩) b7 ?_
          try simp only [List.setIfInBounds_toArray, List.set_cons_zero, List.set_cons_succ]
          refine wpAnyH_take_at (i := 50) (v := .bool false) 98 rfl (by kernel_rfl) (by kernel_rfl) (by kernel_rfl) (by kernel_rfl) (fun _ _ _ h => h) (.inl ⟨by kernel_rfl, fun W hW => by go_simp⟩) b7 ?_
          try simp only [List.setIfInBounds_toArray, List.set_cons_zero, List.set_cons_succ]
          refine wpAnyH_done (by kernel_rfl) ?_ _
          have hbo7 := hbo6.below b7
          have b17 : Below w1.heap.size w1 w7 := b6.trans (b7.mono b6.size)
          rw [← hL2.out] at hbo7
          clear hbo6 pl pb pk pz hbq pm pr
          go_wp2
          go_roundw
          case rel => exact ⟨k + 1, g5, cap5, A5, s2, Ar6, cr6, fr, by omega, by go_num, hbo7, hst, b17⟩
          case measure => simp [intOf] <;> omega
    · obtain rfl : k = n := by omega
      have hdk : decide (k < k) = false := by simp
      have okk := ok.out
      have hlen := okk.len
      have hfew := okk.ok.few
      have hMl := okk.ok.len
      have hfrom := okk.ok.fromT key hva
      obtain ⟨m, hm⟩ : ∃ m, s.fs.length = m := ⟨_, rfl⟩
      rw [hm] at hlen hfew
      have hMm : s.M.length = m := hMl.trans hm
      have htold : placed s.fs s.M = toldB s := rfl
      obtain ⟨L, hL⟩ : ∃ L, toldB s = L := ⟨_, rfl⟩
      rw [htold, hL] at hfrom
      rw [hL] at hlen hbo htold
      have hbx := hbo.rf.box
      rw [hlen] at hbx
      obtain ⟨xs, hxs⟩ : ∃ xs, fromT L key va = xs := ⟨_, rfl⟩
      rw [hxs] at hfrom
      have hxl : xs.length ≤ m := by rw [← hxs, ← hlen]; exact List.length_filter_le _ _
      obtain ⟨t, ht⟩ : ∃ t, xs.length = t := ⟨_, rfl⟩
      have pw := rfrom_any wr w1.heap.size r cr Ar L fr hbo.rf (by omega) key va
      rw [hxs, ht] at pw
      rw [ht] at hxl
      have cF := (kF1.below hbel kF1.lt).cell
      have hm60 : m ≤ 60 := by omega
      replace hMl := Lib.hid hMl
      replace hm := Lib.hid hm
      replace hMm := Lib.hid hMm
      replace htold := Lib.hid htold
      replace hL := Lib.hid hL
      replace hlen := Lib.hid hlen
      replace hxs := Lib.hid hxs
      replace ht := Lib.hid ht
      replace hfrom := Lib.hid hfrom
      clear okk
      go_wp2_with fail
      refine pw.mono ?_
      clear pw cF
      rintro _ wu ⟨v1, rfl, row1, bu⟩
      obtain ⟨A1, c1, rfl⟩ := own_slice row1
      have hcap1 := own_cap row1
      have hcap1b := hcap1.2
      unfold maxLen at hcap1b
      have r1 := Rd.of_own row1
      have hbu := hbel.trans (bu.mono hbel.size)
      have hbou := hbo.below bu
      clear hbo row1 bu
      obtain ⟨N, hN⟩ : ∃ N, 1 + most = N := ⟨_, rfl⟩
      have hNi : (1 : Int) + (most : Int) = (N : Int) := by omega
      have pf := mfacts_any w1.heap.size q p g cap Am s.M s.fs s.b fr wu hbou.m (by rw [hMm.out]; omega)
      replace hNi := Lib.hid hNi
      replace hN := Lib.hid hN
      go_wp2_with fail
      rw [hNi.out]
      refine pf.mono ?_
      clear pf
      rintro _ w4 ⟨A2, n2, c2, rfl, hn2, row2, b4⟩
      obtain rfl : m = n2 := by rw [← hn2, hMm.out]
      have hbo4 := hbou.below b4
      have pf := mfacts_any w1.heap.size q p g cap Am s.M s.fs s.b fr w4 hbo4.m (by rw [hMm.out]; omega)
      replace hn2 := Lib.hid hn2
      go_wp2_with fail
      refine pf.mono ?_
      clear pf
      rintro _ w5 ⟨A3, n3, c3, rfl, hn3, row3, b5⟩
      obtain rfl : m = n3 := by rw [← hn3, hMm.out]
      rw [htold.out] at row2 row3
      have own2 := (BkFt.Own.of_row row2).below b5
      have own3 := BkFt.Own.of_row row3
      have r2 := (Rd.of_own row2).below b5
      have hu5 := b4.trans (b5.mono b4.size)
      have hbo5 := hbou.below hu5
      have hb5 := hbu.trans (hu5.mono hbu.size)
      have hbx5 := hbo5.rf.box
      rw [hlen.out] at hbx5
      have r15 := r1.below hu5
      have hLr : Fs w5 Ar L := hbo5.rf.facts
      have hsf : ∀ W A' A'' c' c'', Below w5.heap.size w5 W → Rd W 6 A' m (ftC L) → Rd W 6 A'' m (ftC L) → Calls Tryd.prog 17 #[.slice A' m c', .slice A'' m c''] W fun e w' => e = .returned (.bool true) ∧ Below W.heap.size W w' := fun W A' A'' c' c'' hW h1 h2 =>
        sameFt_yes W A' A'' m c' c'' L hlen.out (by omega) (by unfold Fs; rw [hlen.out]; exact h1) (by unfold Fs; rw [hlen.out]; exact h2)
      have sf1 : ∀ W, Below w5.heap.size w5 W → Calls Tryd.prog 17 #[.slice A2 m m, .slice Ar m cr] W fun e w' => e = .returned (.bool true) ∧ Below W.heap.size W w' := fun W hW =>
        hsf W A2 Ar m cr hW (r2.below hW) (by have := hLr.below hW; unfold Fs at this; rwa [hlen.out] at this)
      have g1 : ∀ W, Below w5.heap.size w5 W → Calls Tryd.prog 18 #[.pointer (some ⟨q, 0, none⟩), .string key, .int .u32 (va : Int), .int .i64 1000] W fun e w' => ∃ v, e = .returned v ∧ w'.ownsRow W.heap.size 27 6 v t (ftC xs) ∧ Below W.heap.size W w' := fun W hW => by
        have h := got_any w1.heap.size q p g cap Am s.M s.fs s.b fr W (hbo5.below hW).m (by rw [hMm.out]; omega) key va hva (by omega) 1000 (by omega) (by omega)
        rw [← hfrom.out, List.take_of_length_le (by rw [ht.out]; omega), ht.out] at h
        exact h
      have sf2 : ∀ W A' c', Below w5.heap.size w5 W → Rd W 6 A' t (ftC xs) → Calls Tryd.prog 17 #[.slice A' t c', .slice A1 t c1] W fun e w' => e = .returned (.bool true) ∧ Below W.heap.size W w' := fun W A' c' hW h1 =>
        sameFt_yes W A' A1 t c' c1 xs ht.out (by omega) (by unfold Fs; rw [ht.out]; exact h1) (by unfold Fs; rw [ht.out]; exact r15.below hW)
      have hcase : ∃ d, d ≤ t ∧ (xs.take N).length = d ∧ xs.take N = xs.take d ∧ ((t : Int) < (N : Int) ∧ d = t ∨ ¬ (t : Int) < (N : Int) ∧ d = N) := by
        by_cases h : t < N
        · exact ⟨t, Nat.le_refl _, by rw [List.length_take, ht.out]; omega, by rw [List.take_of_length_le (by rw [ht.out]; omega), List.take_of_length_le (by rw [ht.out]; omega)], .inl ⟨by omega, rfl⟩⟩
        · exact ⟨N, by omega, by rw [List.length_take, ht.out]; omega, rfl, .inr ⟨by omega, rfl⟩⟩
      obtain ⟨d, hdt, hdl, hdx, hdc⟩ := hcase
      have hN1 := hN.out
      have g2 : ∀ W, Below w5.heap.size w5 W → Calls Tryd.prog 18 #[.pointer (some ⟨q, 0, none⟩), .string key, .int .u32 (va : Int), .int .i64 (N : Int)] W fun e w' => ∃ v, e = .returned v ∧ w'.ownsRow W.heap.size 27 6 v d (ftC (xs.take d)) ∧ Below W.heap.size W w' := fun W hW => by
        have h := got_any w1.heap.size q p g cap Am s.M s.fs s.b fr W (hbo5.below hW).m (by rw [hMm.out]; omega) key va hva (by omega) N (by omega) (by omega)
        rw [← hfrom.out, hdl, hdx] at h
        exact h
      have rd3 : Rd w5 6 (cutZ 6 A1 c1 0) d (ftC (xs.take d)) := by
        have h2 := Rd.cut (k := 0) (m := d) (A' := cutZ 6 A1 c1 0) r15 (by omega) hdt (fun h0 => by unfold cutZ; rw [if_neg (by omega)])
        have e : ((ftC xs).drop (0 * 6)).take ((d - 0) * 6) = ftC (xs.take d) := by rw [Nat.zero_mul, List.drop_zero, Nat.sub_zero, ftC_take]
        rw [e] at h2
        exact h2
      have hdl2 : (xs.take d).length = d := by rw [← hdx]; exact hdl
      have sf3 : ∀ W A' c', Below w5.heap.size w5 W → Rd W 6 A' d (ftC (xs.take d)) → Calls Tryd.prog 17 #[.slice A' d c', .slice (cutZ 6 A1 c1 0) d c1] W fun e w' => e = .returned (.bool true) ∧ Below W.heap.size W w' := fun W A' c' hW h1 =>
        sameFt_yes W A' (cutZ 6 A1 c1 0) d c' c1 (xs.take d) hdl2 (by omega) (by unfold Fs; rw [hdl2]; exact h1) (by unfold Fs; rw [hdl2]; exact rd3.below hW)
      have k3 := run_cutZ_to (P := Tryd.prog) (e := 27) (z := 6) Tryd.underlying36 (by kernel_rfl) A1 t c1 d (by omega)
      have kF5 := kF1.below hb5 kF1.lt
      have mkS : ∀ W, Below w5.heap.size w5 W → (fun W => (∀ i, W.cell? ⟨r, i, none⟩ = (#[.slice Ar m cr, .bool fr] : Array Value)[i]?) ∧ (∀ i, W.cell? ⟨w.heap.size, i, none⟩ = (#[.string key, .int .u32 (va : Int), .int .u64 (se : Int), .int .u64 (li : Int), .int .u8 (ki : Int), .string vl] : Array Value)[i]?) ∧ Below w5.heap.size w5 W) W := fun W hW => ⟨(hbx5.below hW hbx5.lt).cell, (kF5.below hW kF5.lt).cell, hW⟩
      have s0 := mkS w5.drew (Below.refl _ w5).drew
      have s00 := mkS w5 (Below.refl _ w5)
      replace hsf := Lib.hid hsf
      replace sf1 := Lib.hid sf1
      replace sf2 := Lib.hid sf2
      replace sf3 := Lib.hid sf3
      replace g1 := Lib.hid g1
      replace g2 := Lib.hid g2
      replace mkS := Lib.hid mkS
      replace hdl := Lib.hid hdl
      replace hdx := Lib.hid hdx
      replace hdl2 := Lib.hid hdl2
      replace hn3 := Lib.hid hn3
      replace hN1 := Lib.hid hN1
      have s4u := b4.size
      clear row2 row3 b4 b5 hbo4 hbx rd3
      go_wp2_with fail
      go_cut [146] from 112 to 146 (fun v146 wc => v146 = .bool false ∧ Below w5.heap.size w5 wc)
      case first =>
        rcases hdc with ⟨hdc, rfl⟩ | ⟨hdc, rfl⟩
        · go_region_held3 (fun W => (∀ i, W.cell? ⟨r, i, none⟩ = (#[.slice Ar m cr, .bool fr] : Array Value)[i]?) ∧ (∀ i, W.cell? ⟨w.heap.size, i, none⟩ = (#[.string key, .int .u32 (va : Int), .int .u64 (se : Int), .int .u64 (li : Int), .int .u8 (ki : Int), .string vl] : Array Value)[i]?) ∧ Below w5.heap.size w5 W)
            (first | with_reducible exact v15 | with_reducible exact v14 | with_reducible exact v13 | with_reducible exact v12 | with_reducible exact v11 | with_reducible exact s0 | with_reducible exact s00)
            (first
            | (go_at_call 17; (with_reducible refine (sf1.out _ (And.right (And.right (by with_reducible assumption)))).mono ?_); rintro _ q11 ⟨rfl, b11⟩; have v11 := mkS.out _ (Below.trans (And.right (And.right (by with_reducible assumption))) (b11.mono (Below.size (And.right (And.right (by with_reducible assumption)))))))
            | (go_at_call 18; (with_reducible refine (g1.out _ (And.right (And.right (by with_reducible assumption)))).mono ?_); rintro _ q12 ⟨x12, rfl, o12, b12⟩; obtain ⟨A12, c12, rfl⟩ := own_slice o12; replace o12 := Rd.of_own o12; have v12 := mkS.out _ (Below.trans (And.right (And.right (by with_reducible assumption))) (b12.mono (Below.size (And.right (And.right (by with_reducible assumption)))))))
            | (go_at_call 17; (with_reducible refine (sf2.out _ _ _ (And.right (And.right (by with_reducible assumption))) o12).mono ?_); rintro _ q13 ⟨rfl, b13⟩; have v13 := mkS.out _ (Below.trans (And.right (And.right (by with_reducible assumption))) (b13.mono (Below.size (And.right (And.right (by with_reducible assumption)))))))
            | (go_at_call 18; (with_reducible refine (g2.out _ (And.right (And.right (by with_reducible assumption)))).mono ?_); rintro _ q14 ⟨x14, rfl, o14, b14⟩; obtain ⟨A14, c14, rfl⟩ := own_slice o14; replace o14 := Rd.of_own o14; have v14 := mkS.out _ (Below.trans (And.right (And.right (by with_reducible assumption))) (b14.mono (Below.size (And.right (And.right (by with_reducible assumption)))))))
            | (go_at_call 17; (with_reducible refine (sf3.out _ _ _ (And.right (And.right (by with_reducible assumption))) o14).mono ?_); rintro _ q15 ⟨rfl, b15⟩; have v15 := mkS.out _ (Below.trans (And.right (And.right (by with_reducible assumption))) (b15.mono (Below.size (And.right (And.right (by with_reducible assumption)))))))
            | fail)
          all_goals
            go_wp2
            go_meet
            case rel => exact ⟨rfl, v15.2.2⟩
        · have hdf : ((t : Int) < (d : Int)) = False := by simp; omega
          clear hdc
          go_region_held3 (fun W => (∀ i, W.cell? ⟨r, i, none⟩ = (#[.slice Ar m cr, .bool fr] : Array Value)[i]?) ∧ (∀ i, W.cell? ⟨w.heap.size, i, none⟩ = (#[.string key, .int .u32 (va : Int), .int .u64 (se : Int), .int .u64 (li : Int), .int .u8 (ki : Int), .string vl] : Array Value)[i]?) ∧ Below w5.heap.size w5 W)
            (first | with_reducible exact v15 | with_reducible exact v14 | with_reducible exact v13 | with_reducible exact v12 | with_reducible exact v11 | with_reducible exact s0 | with_reducible exact s00)
            (first
            | (go_at_call 17; (with_reducible refine (sf1.out _ (And.right (And.right (by with_reducible assumption)))).mono ?_); rintro _ q11 ⟨rfl, b11⟩; have v11 := mkS.out _ (Below.trans (And.right (And.right (by with_reducible assumption))) (b11.mono (Below.size (And.right (And.right (by with_reducible assumption)))))))
            | (go_at_call 18; (with_reducible refine (g1.out _ (And.right (And.right (by with_reducible assumption)))).mono ?_); rintro _ q12 ⟨x12, rfl, o12, b12⟩; obtain ⟨A12, c12, rfl⟩ := own_slice o12; replace o12 := Rd.of_own o12; have v12 := mkS.out _ (Below.trans (And.right (And.right (by with_reducible assumption))) (b12.mono (Below.size (And.right (And.right (by with_reducible assumption)))))))
            | (go_at_call 17; (with_reducible refine (sf2.out _ _ _ (And.right (And.right (by with_reducible assumption))) o12).mono ?_); rintro _ q13 ⟨rfl, b13⟩; have v13 := mkS.out _ (Below.trans (And.right (And.right (by with_reducible assumption))) (b13.mono (Below.size (And.right (And.right (by with_reducible assumption)))))))
            | (go_at_call 18; (with_reducible refine (g2.out _ (And.right (And.right (by with_reducible assumption)))).mono ?_); rintro _ q14 ⟨x14, rfl, o14, b14⟩; obtain ⟨A14, c14, rfl⟩ := own_slice o14; replace o14 := Rd.of_own o14; have v14 := mkS.out _ (Below.trans (And.right (And.right (by with_reducible assumption))) (b14.mono (Below.size (And.right (And.right (by with_reducible assumption)))))))
            | (go_at_call 17; (with_reducible refine (sf3.out _ _ _ (And.right (And.right (by with_reducible assumption))) o14).mono ?_); rintro _ q15 ⟨rfl, b15⟩; have v15 := mkS.out _ (Below.trans (And.right (And.right (by with_reducible assumption))) (b15.mono (Below.size (And.right (And.right (by with_reducible assumption)))))))
            | fail)
          all_goals
            go_wp2
            go_meet
            case rel => exact ⟨rfl, v15.2.2⟩
      case rest =>
        obtain ⟨rfl, b6⟩ := hcut
        obtain ⟨w6, rfl⟩ : ∃ x : World, x = wc := ⟨_, rfl⟩
        have hu6 := hu5.trans (b6.mono hu5.size)
        have o2 := own2.below b6
        have o3 := own3.below b6
        obtain ⟨pB, hpB⟩ : ∃ p, w6.heap.size = p := ⟨_, rfl⟩
        obtain ⟨w7, hw7⟩ : ∃ w7, w6.alloc (Obj.cells #[.slice none 0 0] 48) = w7 := ⟨_, rfl⟩
        have bk : BookAt w7 pB pB [] := by
          rw [← hw7, ← hpB]
          exact ⟨none, 0, Blk.new w6 _ _, World.ownsRow_nil _ _ _ _⟩
        have b7 : Below w6.heap.size w6 w7 := by rw [← hw7]; exact (Below.refl _ _).alloc (Nat.le_refl _) _
        have hp7 : pB ≤ w7.heap.size := by rw [← hw7, ← hpB]; simp
        have s54 := b6.size
        have hbxu := hbou.rf.box
        rw [hlen.out] at hbxu
        have mkT : ∀ W, Below wu.heap.size wu W → (fun W => (∀ i, W.cell? ⟨r, i, none⟩ = (#[.slice Ar m cr, .bool fr] : Array Value)[i]?) ∧ Below wu.heap.size wu W) W := fun W hW => ⟨(hbxu.below hW hbxu.lt).cell, hW⟩
        have pf : ∀ W, Below wu.heap.size wu W → Calls Tryd.prog 16 #[.pointer (some ⟨q, 0, none⟩)] W fun e w' => ∃ A' c', e = .returned (.slice A' m m) ∧ Rd w' 6 A' m (ftC L) ∧ Below W.heap.size W w' := fun W hW => by
          refine (mfacts_any w1.heap.size q p g cap Am s.M s.fs s.b fr W (hbou.below hW).m (by rw [hMm.out]; omega)).mono ?_
          rintro _ w' ⟨A', n', c', rfl, hn', ho, hb'⟩
          obtain rfl : m = n' := by rw [← hn', hMm.out]
          rw [htold.out] at ho
          exact ⟨A', c', rfl, Rd.of_own ho, hb'⟩
        have hLu : Fs wu Ar L := hbou.rf.facts
        have sf4 : ∀ W A', Below wu.heap.size wu W → Rd W 6 A' m (ftC L) → Calls Tryd.prog 17 #[.slice A' m m, .slice Ar m cr] W fun e w' => e = .returned (.bool true) ∧ Below W.heap.size W w' := fun W A' hW h1 =>
          sameFt_yes W A' Ar m m cr L hlen.out (by omega) (by unfold Fs; rw [hlen.out]; exact h1) (hLu.below hW)
        replace pf := Lib.hid pf
        replace sf4 := Lib.hid sf4
        replace mkT := Lib.hid mkT
        replace hw7 := Lib.hid hw7
        replace hpB := Lib.hid hpB
        clear s0 s00 sf1 sf2 sf3 g1 g2 mkS kF5 hbx5 hLr r15 r2 r1 hsf k3
        go_wp2_with fail
        rw [hpB.out, hw7.out]
        refine (BkFt.put_any w7 pB pB [] bk hp7 0 rfl (by omega) A2 m m).mono ?_
        rintro _ w8 ⟨rfl, ⟨m1, bk8⟩, kt8, b8⟩
        have b8 := b8 (Nat.le_refl _)
        have hp8 : pB ≤ w8.heap.size := Nat.le_trans hp7 b8.size
        go_wp2_with fail
        refine (BkFt.put_any w8 pB pB _ bk8 hp8 1 rfl (by omega) A3 m m).mono ?_
        rintro _ w9 ⟨rfl, ⟨m2, bk9⟩, kt9, b9⟩
        have b9 := b9 (Nat.le_refl _)
        have hp9 : pB ≤ w9.heap.size := Nat.le_trans hp8 b9.size
        have b69 : Below w6.heap.size w6 w9 := by
          have e := hpB.out
          rw [e] at b7 ⊢
          exact (b7.trans b8).trans b9
        have hu9 := hu6.trans (b69.mono hu6.size)
        have o2' := o2.below (b69.drew)
        have o3' := o3.below (b69.drew)
        have hsh := BkFt.sheets2 (U := wu.heap.size) (q0 := ⟨A2, m, m, m1⟩) (q1 := ⟨A3, m, m, m2⟩) o2' o3' (.inl (Nat.le_refl _)) (Nat.le_refl _) s4u
        have pa := BkFt.apart_any w9.drew pB pB wu.heap.size [⟨A2, m, m, m1⟩, ⟨A3, m, m, m2⟩] (bk9.below (Below.refl _ _).drew) hu9.size (by show 2 ≤ 8; omega) hsh.1 hsh.2.1 hsh.2.2
        replace pa := Lib.hid pa
        have hbU := hb01.trans (hbu.mono hb01.size)
        have t0 := mkT.out w9 hu9
        have t00 := mkT.out w9.drew hu9.drew
        clear bk bk8 bk9 kt8 kt9 b8 b9 hsh o2' o3' o2 o3 own2 own3 b6 b7
        go_wp2
        go_region_held3 (fun W => (∀ i, W.cell? ⟨r, i, none⟩ = (#[.slice Ar m cr, .bool fr] : Array Value)[i]?) ∧ Below wu.heap.size wu W)
          (first | with_reducible exact v24 | with_reducible exact v23 | with_reducible exact v22 | with_reducible exact v21 | with_reducible exact t00 | with_reducible exact t0)
          (first
          | (go_at_call 20; (with_reducible refine pa.out.mono ?_); rintro _ q21 ⟨rfl, b21⟩; have v21 := mkT.out _ (hu9.drew.trans b21))
          | (go_at_call 16; (with_reducible refine (pf.out _ (And.right (by with_reducible assumption))).mono ?_); rintro _ q22 ⟨A22, c22, rfl, o22, b22⟩; have v22 := mkT.out _ (Below.trans (And.right (by with_reducible assumption)) (b22.mono (Below.size (And.right (by with_reducible assumption))))))
          | (go_at_call 17; (with_reducible refine (sf4.out _ _ (And.right (by with_reducible assumption)) o22).mono ?_); rintro _ q23 ⟨rfl, b23⟩; have v23 := mkT.out _ (Below.trans (And.right (by with_reducible assumption)) (b23.mono (Below.size (And.right (by with_reducible assumption))))))
          | (go_at_call 5; (with_reducible refine (lives_any _).mono ?_); rintro _ q24 ⟨rfl, b24⟩; have v24 := mkT.out _ (Below.trans (And.right (by with_reducible assumption)) (b24.mono (Below.size (And.right (by with_reducible assumption))))))
          | fail)
        all_goals
          go_wp2
          go_ret
          exact ⟨rfl, hbU.trans (v24.2.mono hbU.size)⟩

/-! ### from the walk to the statement (by tail.py) -/
set_option maxRecDepth 100000 in
theorem door_met (os : Os) (args : Array Value) : laidMetH Tryd.prog Rows.memsPlayRow.laid ((World.doorLaid Tryd.prog 24 os).forCall (fun _ _ => 0) ⟨#[], args, []⟩).memory :=
  laidMetH_of_parts3 (fuel := 8) (laidMet_of_run' 8 (by kernel_rfl) (by kernel_rfl)) (by kernel_rfl) (by kernel_rfl)
set_option maxRecDepth 100000 in
theorem lifted (os : Os) (started : os.Started) (H : Type) (enc : TypeId × Value → H) :
    ReturnsInHanded {} Tryd.checked os 3 .any (fun w args => (Rows.memsPlaySpec.pre enc Tryd.prog Tryd.f3 [] false w args ∧ laidMetH Tryd.prog Rows.memsPlayRow.laid w) ∧ sizedMet enc Tryd.prog Tryd.f3 (OpenSpec.ofChange Rows.memsPlaySpec) false w args) (Rows.memsPlaySpec.post enc Tryd.prog Tryd.f3 false true false false) := by
  refine lifted_of_and (C := Tryd.checked) (tb := 4) (n := 3) (X := fun w _ => laidMetH Tryd.prog Rows.memsPlayRow.laid w) (fun _ _ _ hh h => h.of_heap hh) (by kernel_rfl) started (by kernel_rfl) Tryd.func3 (by kernel_rfl) (by kernel_rfl) rfl (by kernel_rfl) Tryd.underlying4 (by kernel_rfl)
    (fun ds hd => by match ds, hd with | [d1, d2, d3], _ => exact ⟨rfl, rfl, rfl⟩)
    (ChangeSpec.witness_shaped (enc := enc) (C := Tryd.checked) (os := os) (X := fun w _ => laidMetH Tryd.prog Rows.memsPlayRow.laid w) false (World.doorLaid Tryd.prog 24 os) #[.slice none 0 0, .agg #[.string ByteArray.empty, .int .u32 0, .int .u64 0, .int .u64 0, .int .u8 0, .string ByteArray.empty], .int .u8 0] 8 rfl (World.shaped_of_RefB (by kernel_rfl) (by kernel_rfl)) (by kernel_rfl) (by kernel_rfl) (by kernel_rfl) (door_met os _)) ?_
  intro W base args ds before hval hA hsz hX
  rw [Tryd.params3] at hA hval hsz
  obtain ⟨v0, vs0, d0, ds0, p0, q0, rfl, rfl, rfl, h0, r0⟩ := trodAll_cons hA
  obtain ⟨v1, vs1, d1, ds1, p1, q1, rfl, rfl, rfl, h1, r1⟩ := trodAll_cons r0
  obtain ⟨v2, vs2, d2, ds2, p2, q2, rfl, rfl, rfl, h2, r2⟩ := trodAll_cons r1
  obtain ⟨rfl, rfl, rfl⟩ := trodAll_nil r2
  obtain ⟨A0, c0, ls0, rfl, hrd0, hlc0, hls0⟩ := open_mlaids (hval 0 _ _ rfl rfl) h0
  obtain ⟨k1, s1, va1, se1, li1, ki1, rfl, hva1, hse1, hli1, hki1⟩ := open_fact (hval 1 _ _ rfl rfl) h1
  obtain ⟨x2, rfl, hx2⟩ := open_u8 Tryd.underlying5 (hval 2 _ _ rfl rfl) h2
  exact walk W A0 c0 ls0 hrd0 hls0 k1 s1 va1 se1 li1 ki1 hva1 hse1 hli1 hki1 x2 hx2

theorem over : Rows.memsPlayRow.holds Tryd.pinned (OpenSpec.ofChange Rows.memsPlaySpec) :=
  OpenClaim.holds_of_wide 3 Tryd.f3 rfl rfl rfl rfl rfl rfl rfl ⟨rfl, rfl, rfl, rfl, rfl⟩ rfl rfl rfl rfl rfl (by kernel_rfl) Tryd.func3 (by kernel_rfl)
    (of_decide_eq_true (by kernel_rfl)) (by unfold Func.isWrapper; first | (rw [if_pos (by decide +kernel)]; kernel_rfl) | (rw [if_neg (by decide +kernel)]; exact ⟨rfl, rfl⟩))
    (fun os started H enc _ => lifted os started H enc)

theorem proved : Rows.MemsPlayCardSaid :=
  Claim7.holds_tied_plain_at .later [] [.data, .data, .data] true (true, "e8d79ec6ee8860b9306ecf6a88ea5ca9297913a4df3d9d4f2d7e720d640ae4fa") false
    over (fun _ h => by cases h) (by kernel_rfl) (fun _ h => by cases h) memsPlay_row_tie rfl ⟨rfl, rfl⟩ (by kernel_rfl) rfl
    (fun f fn hf hfn => by
      obtain rfl : f = 3 := Option.some.inj ((show Tryd.prog.funcNamed "herbarium/herbariumlaw09.MemsPlay" = some 3 by kernel_rfl).symm.trans hf) |>.symm
      obtain rfl : fn = Tryd.f3 := (Option.some.inj (Tryd.func3.symm.trans hfn)).symm
      exact ⟨by kernel_rfl, fun j t ht => by
        have hall : (Tryd.f3.params.toList.all fun u => !Tryd.prog.wantsStandIn u) = true := by kernel_rfl
        have hm : t ∈ Tryd.f3.params.toList := Array.mem_toList_iff.2 (Array.mem_of_getElem? ht)
        exact (show Tryd.prog.wantsStandIn t = false by simpa using List.all_eq_true.1 hall t hm)⟩)
    (by kernel_rfl)
end Go.Proofs.YtdifdbkbpeanhaaDoor.lawMemsPlay
