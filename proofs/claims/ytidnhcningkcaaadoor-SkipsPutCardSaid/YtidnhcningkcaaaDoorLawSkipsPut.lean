/- Whatever keys are put, at whatever heights, each answer, how many there are, and all that is told from any key on, as far as is asked, are the chapter's, in new memory; the keys stay as they were: for every input, no condition but what the listed variables hold. -/
import Derived.Test.YtidnhcningkcaaaDoorSkFar
import Derived.Test.YtidnhcningkcaaaDoorSkTold
import Derived.Test.YtidnhcningkcaaaDoorSkLives
import Derived.Test.YtidnhcningkcaaaDoorLaid
import Derived.Test.YtidnhcningkcaaaDoorLiftD
import Derived.Test.YtidnhcningkcaaaDoorCards
import Derived.Test.YtidnhcningkcaaaDoorTie
import Derived.LaidMore
import Derived.SevenTiedAt
import Derived.Lib.LaidTab
import Derived.Deep.RegionHeld3
import Derived.Deep.RegionWith
set_option linter.unusedSimpArgs false
set_option linter.unusedVariables false
namespace Go.Proofs.YtidnhcningkcaaaDoor.lawSkipsPut
open Go Go.RowKit Herb Go.ChangeShapes Go.WideShapes Go.ChangeAt

theorem las_at {w : World} {A : Option Addr} {n : Nat} {ls : List La} (h : Rd w 3 A n (lasC ls)) (hn : ls.length = n) {i : Nat} (hi : i < n) : ∃ b off y, A = some ⟨b, off, none⟩ ∧ ls[i]? = some y ∧ w.cell? ⟨b, off + i * 3, none⟩ = some (.slice y.A y.key.length y.c) ∧ w.cell? ⟨b, off + i * 3 + 1, none⟩ = some (.int .i64 y.n) ∧ w.cell? ⟨b, off + i * 3 + 2, none⟩ = some (.int .i64 y.h) := by
  obtain ⟨b, off, e, hb, hc⟩ := Rd.at_ h hi
  have hl : i < ls.length := by omega
  exact ⟨b, off, ls[i], e, List.getElem?_eq_getElem hl, hc (i * 3 + 0) _ (lasC_get hl (j := 0) (by omega)), hc (i * 3 + 1) _ (lasC_get hl (j := 1) (by omega)), hc (i * 3 + 2) _ (lasC_get hl (j := 2) (by omega))⟩

theorem RefK.storeT {w : World} {base r c T : Nat} {A : Option Addr} {M : List (List UInt8 × Int)} (h : RefK w base r A c M) {cs : Array Value} (hT : Blk w T 5 cs) (i : Nat) (u : Value) : RefK (w.setCell ⟨T, i, none⟩ u) base r A c M :=
  ⟨h.box.far (h.box.ne_ hT (by decide)) u, h.row.kept (row := some T) ⟨rfl, rfl, rfl, by simp, fun k _ hk => heap_setCell_other w ⟨T, i, none⟩ k u (fun e => hk (by rw [e]))⟩ (.inr (fun e => own_neB h.row hT (by decide) e.symm)), h.rb⟩

set_option maxRecDepth 100000 in
set_option maxHeartbeats 6400000 in
theorem walk (w1 : World) (A : Option Addr) (c : Nat) (ls : List La) (hrd : Rd w1 3 A ls.length (lasC ls)) (hls : ∀ y ∈ ls, Bs w1 y.A y.key) (hlk : ∀ y ∈ ls, y.key.length ≤ 140737488355328) (B : Option Addr) (cB : Nat) (K : List UInt8) (hKl : K.length ≤ 140737488355328) (hbK : Bs w1 B K) (most : Nat) (hmost : most < 256) :
    Calls Tryd.prog 3 #[.slice A ls.length c, .slice B K.length cB, .int .u8 (most : Int)] w1 fun e w' => e = .returned (.bool true) ∧ Below w1.heap.size w1 w' := by
  obtain ⟨n, hn⟩ : ∃ n, ls.length = n := ⟨_, rfl⟩
  obtain ⟨mK, hmK⟩ : ∃ mK, K.length = mK := ⟨_, rfl⟩
  rw [hn] at hrd ⊢
  rw [hmK] at hKl ⊢
  replace hn := Lib.hid hn
  replace hmK := Lib.hid hmK
  replace hls := Lib.hid hls
  replace hlk := Lib.hid hlk
  go_enter Tryd.func3, Tryd.ntmps3
  by_cases hbig : 80 < n
  · have d1 : decide ((80 : Int) < (n : Int)) = true := decide_eq_true (by omega)
    go_wp2_with fail
    refine (lives_any _).mono ?_
    rintro _ w2 ⟨rfl, b1⟩
    go_wp2
    go_ret
    exact ⟨rfl, b1⟩
  have d1 : decide ((80 : Int) < (n : Int)) = false := decide_eq_false (by omega)
  have hn80 : n ≤ 80 := by omega
  clear hbig
  go_wp2_with fail
  refine (newL w1).mono ?_
  rintro _ w2 ⟨p, g0, rfl, s0, b2⟩
  go_wp2_with fail
  refine (knew_any w2).mono ?_
  rintro _ w3 ⟨rfl, r0, b3⟩
  obtain ⟨r, hr⟩ : ∃ r, w2.heap.size = r := ⟨_, rfl⟩
  have r00 : RefK w3 w1.heap.size r none 0 [] := by rw [← hr]; exact ⟨r0.box, r0.row.mono b2.size, b2.size⟩
  have s00 : SkL w3 w1.heap.size p g0 [] := s0.below b3
  have b13 : Below w1.heap.size w1 w3 := b2.trans (b3.mono b2.size)
  rw [hr]
  replace hr := Lib.hid hr
  clear r0 s0 b2 b3
  go_wp2
  go_loopw [9] (fun i wr => ∃ (k g cr : Nat) (Ar : Option Addr) (M : List (List UInt8 × Int)), k ≤ n ∧ i = .int .i64 (k : Int) ∧ SkL wr w1.heap.size p g M ∧ RefK wr w1.heap.size r Ar cr M ∧ Hid (Rises M) ∧ M.length ≤ k ∧ Below w1.heap.size w1 wr) (fun i _ => n - (intOf i).toNat)
  case atStart => exact ⟨0, g0, 0, none, [], by omega, rfl, s00, r00, Lib.hid List.Pairwise.nil, by simp, b13⟩
  case round =>
    clear s00 r00 b13
    obtain ⟨k, g, cr, Ar, M, hk, rfl, hs, hrk, hri, hMl, hbel⟩ := hrel
    by_cases hlt : k < n
    · obtain ⟨b, off, y, rfl, hy, c0, c1, c2⟩ := las_at (hrd.below hbel) hn.out hlt
      have hrows := fun W (hW : Below w1.heap.size w1 W) => las_at (hrd.below hW) hn.out hlt
      have hyb := hls.out y (List.mem_of_getElem? hy)
      have hyl := hlk.out y (List.mem_of_getElem? hy)
      obtain ⟨yA, K1, yc, yn, yh⟩ := y
      simp only at c0 c1 c2 hyb hyl
      obtain ⟨m, hm⟩ : ∃ m, K1.length = m := ⟨_, rfl⟩
      rw [hm] at c0 hyl
      have cells : ∀ W, Below w1.heap.size w1 W → W.cell? ⟨b, off + k * 3, none⟩ = some (.slice yA m yc) ∧ W.cell? ⟨b, off + k * 3 + 1, none⟩ = some (.int .i64 yn) ∧ W.cell? ⟨b, off + k * 3 + 2, none⟩ = some (.int .i64 yh) := fun W hW => by
        obtain ⟨b', off', y', he, hy', h⟩ := hrows W hW
        cases he
        rw [hy] at hy'
        cases hy'
        simp only [hm] at h
        exact h
      replace cells := Lib.hid cells
      have hdk : decide (k < n) = true := by simpa using hlt
      clear hrows
      have pt := twinBytes_any wr yA yc K1 (by omega) (hyb.below hbel)
      rw [hm] at pt
      go_wp2_with fail
      refine pt.mono ?_
      clear pt c0 c1 c2
      rintro _ wX ⟨rfl, hwX⟩
      have kT : Blk wX wr.heap.size 5 (bvs (K1 ++ [90, 90])).toArray := by rw [← hwX]; exact Blk.new wr _ _
      have bX : Below wr.heap.size wr wX := by rw [← hwX]; exact (Below.refl _ _).alloc (Nat.le_refl _) _
      have hbX := hbel.trans (bX.mono hbel.size)
      have hsD := ((hs.far (T := wr.heap.size) (Nat.le_refl _)).below bX).below (Below.refl _ wX).drew
      have hrD := (hrk.below bX).below (Below.refl _ wX).drew
      have hTb : w1.heap.size ≤ wr.heap.size := hbel.size
      obtain ⟨T, hT⟩ : ∃ T, wr.heap.size = T := ⟨_, rfl⟩
      rw [hT] at kT hTb hsD ⊢
      have kTD : Blk wX.drew T 5 (bvs (K1 ++ [90, 90])).toArray := kT
      have hsl := hsD.sk.lt
      have hbT : Bs wX.drew (some ⟨T, 0, none⟩) K1 := kTD.rd (by rw [bvs_length]; omega) (fun j u hu => by
        rw [Nat.zero_add, List.getElem?_toArray, bvs_append, List.getElem?_append_left (by have := (List.getElem?_eq_some_iff.1 hu).1; exact this)]
        exact hu)
      have pm := sputF_any wX.drew w1.heap.size p g M T hsD kTD.lt hbX.size (by omega) K1 (some ⟨T, 0, none⟩) m (m + 2) hm hyl hbT yn yh
      have hri2 := stepK_rises hri.out K1 yn yh
      have hlen2 := stepK_len M K1 yn yh
      have pr := fun W (hW : RefK W w1.heap.size r Ar cr M) (hB : Below w1.heap.size w1 W) => kput_any W w1.heap.size r cr Ar M hW hB.size (by omega) K1 yA m yc hm (hyb.below hB) yn yh
      obtain ⟨Z, hZ⟩ : ∃ Z, stepK M K1 yn yh = Z := ⟨_, rfl⟩
      rw [hZ] at pm hri2 hlen2
      simp only [hZ] at pr
      obtain ⟨e1, M2⟩ := Z
      simp only at pm pr hri2 hlen2
      obtain ⟨m2, hm2⟩ : ∃ m2, M2.length = m2 := ⟨_, rfl⟩
      have pf := fun W (hB : Below w1.heap.size w1 W) (hk' : Blk W T 5 (bvs (K1 ++ [90, 90])).toArray) => leftBytes_any W T yA yc K1 (by omega) (hyb.below hB) hk'
      simp only [hm] at pf
      have hfol : Tryd.prog.follows .mixedOrders = true := by kernel_rfl
      have hS0 : Below w1.heap.size w1 wX.drew := hbX.drew
      replace pm := Lib.hid pm
      replace pr := Lib.hid pr
      replace pf := Lib.hid pf
      replace hZ := Lib.hid hZ
      replace hm2 := Lib.hid hm2
      replace hri2 := Lib.hid hri2
      replace hT := Lib.hid hT
      clear hwX hs hrk kT bX hbel hbT hy hyb hri
      go_wp2_with fail
      refine wp_region_held (S := fun X => Below w1.heap.size w1 X) hfol ?_
      refine wpAnyH_take_atT (i := 0) (v := .pointer (some ⟨p, 0, none⟩)) 30 rfl (by kernel_rfl) (by kernel_rfl) (by kernel_rfl) (by kernel_rfl) (fun _ _ _ h => h) (.inl ⟨by kernel_rfl, fun W hW => by go_simp⟩) hS0 ?_
      try simp only [List.setIfInBounds_toArray, List.set_cons_zero, List.set_cons_succ]
      refine wpAnyH_take_atT (i := 1) (v := .slice (some ⟨T, 0, none⟩) m (m + 2)) 31 rfl (by kernel_rfl) (by kernel_rfl) (by kernel_rfl) (by kernel_rfl) (fun _ _ _ h => h) (.inl ⟨by kernel_rfl, fun W hW => by go_simp⟩) hS0 ?_
      try simp only [List.setIfInBounds_toArray, List.set_cons_zero, List.set_cons_succ]
      refine wpAnyH_take_atT (i := 2) (v := .slice (some ⟨b, off, none⟩) n c) 32 rfl (by kernel_rfl) (by kernel_rfl) (by kernel_rfl) (by kernel_rfl) (fun _ _ _ h => h) (.inl ⟨by kernel_rfl, fun W hW => by go_simp⟩) hS0 ?_
      try simp only [List.setIfInBounds_toArray, List.set_cons_zero, List.set_cons_succ]
      refine wpAnyH_take_atT (i := 3) (v := .int .i64 (k : Int)) 33 rfl (by kernel_rfl) (by kernel_rfl) (by kernel_rfl) (by kernel_rfl) (fun _ _ _ h => h) (.inl ⟨by kernel_rfl, fun W hW => by go_simp⟩) hS0 ?_
      try simp only [List.setIfInBounds_toArray, List.set_cons_zero, List.set_cons_succ]
      refine wpAnyH_take_atT (i := 4) (v := .pointer (some ⟨b, off + k * 3, none⟩)) 34 rfl (by kernel_rfl) (by kernel_rfl) (by kernel_rfl) (by kernel_rfl) (fun _ _ _ h => h) (.inl ⟨by kernel_rfl, fun W hW => by go_simp⟩) hS0 ?_
      try simp only [List.setIfInBounds_toArray, List.set_cons_zero, List.set_cons_succ]
      refine wpAnyH_take_atT (i := 5) (v := .pointer (some ⟨b, off + k * 3 + 1, none⟩)) 35 rfl (by kernel_rfl) (by kernel_rfl) (by kernel_rfl) (by kernel_rfl) (fun _ _ _ h => h) (.inl ⟨by kernel_rfl, fun W hW => by go_simp⟩) hS0 ?_
      try simp only [List.setIfInBounds_toArray, List.set_cons_zero, List.set_cons_succ]
      refine wpAnyH_take_atT (i := 6) (v := .int .i64 yn) 36 rfl (by kernel_rfl) (by kernel_rfl) (by kernel_rfl) (by kernel_rfl) (fun _ _ _ h => h) (.inl ⟨by kernel_rfl, fun W hW => by have hx1 := (cells.out W hW).2.1; go_simp⟩) hS0 ?_
      try simp only [List.setIfInBounds_toArray, List.set_cons_zero, List.set_cons_succ]
      refine wpAnyH_take_atT (i := 7) (v := .slice (some ⟨b, off, none⟩) n c) 37 rfl (by kernel_rfl) (by kernel_rfl) (by kernel_rfl) (by kernel_rfl) (fun _ _ _ h => h) (.inl ⟨by kernel_rfl, fun W hW => by go_simp⟩) hS0 ?_
      try simp only [List.setIfInBounds_toArray, List.set_cons_zero, List.set_cons_succ]
      refine wpAnyH_take_atT (i := 8) (v := .int .i64 (k : Int)) 38 rfl (by kernel_rfl) (by kernel_rfl) (by kernel_rfl) (by kernel_rfl) (fun _ _ _ h => h) (.inl ⟨by kernel_rfl, fun W hW => by go_simp⟩) hS0 ?_
      try simp only [List.setIfInBounds_toArray, List.set_cons_zero, List.set_cons_succ]
      refine wpAnyH_take_atT (i := 9) (v := .pointer (some ⟨b, off + k * 3, none⟩)) 39 rfl (by kernel_rfl) (by kernel_rfl) (by kernel_rfl) (by kernel_rfl) (fun _ _ _ h => h) (.inl ⟨by kernel_rfl, fun W hW => by go_simp⟩) hS0 ?_
      try simp only [List.setIfInBounds_toArray, List.set_cons_zero, List.set_cons_succ]
      refine wpAnyH_take_atT (i := 10) (v := .pointer (some ⟨b, off + k * 3 + 2, none⟩)) 40 rfl (by kernel_rfl) (by kernel_rfl) (by kernel_rfl) (by kernel_rfl) (fun _ _ _ h => h) (.inl ⟨by kernel_rfl, fun W hW => by go_simp⟩) hS0 ?_
      try simp only [List.setIfInBounds_toArray, List.set_cons_zero, List.set_cons_succ]
      refine wpAnyH_take_atT (i := 11) (v := .int .i64 yh) 41 rfl (by kernel_rfl) (by kernel_rfl) (by kernel_rfl) (by kernel_rfl) (fun _ _ _ h => h) (.inl ⟨by kernel_rfl, fun W hW => by have hx1 := (cells.out W hW).2.2; go_simp⟩) hS0 ?_
      try simp only [List.setIfInBounds_toArray, List.set_cons_zero, List.set_cons_succ]
      refine wpAnyH_take_atT (i := 13) (v := .pointer (some ⟨r, 0, none⟩)) 43 rfl (by kernel_rfl) (by kernel_rfl) (by kernel_rfl) (by kernel_rfl) (fun _ _ _ h => h) (.inl ⟨by kernel_rfl, fun W hW => by go_simp⟩) hS0 ?_
      try simp only [List.setIfInBounds_toArray, List.set_cons_zero, List.set_cons_succ]
      refine wpAnyH_take_atT (i := 14) (v := .slice (some ⟨b, off, none⟩) n c) 44 rfl (by kernel_rfl) (by kernel_rfl) (by kernel_rfl) (by kernel_rfl) (fun _ _ _ h => h) (.inl ⟨by kernel_rfl, fun W hW => by go_simp⟩) hS0 ?_
      try simp only [List.setIfInBounds_toArray, List.set_cons_zero, List.set_cons_succ]
      refine wpAnyH_take_atT (i := 15) (v := .int .i64 (k : Int)) 45 rfl (by kernel_rfl) (by kernel_rfl) (by kernel_rfl) (by kernel_rfl) (fun _ _ _ h => h) (.inl ⟨by kernel_rfl, fun W hW => by go_simp⟩) hS0 ?_
      try simp only [List.setIfInBounds_toArray, List.set_cons_zero, List.set_cons_succ]
      refine wpAnyH_take_atT (i := 16) (v := .pointer (some ⟨b, off + k * 3, none⟩)) 46 rfl (by kernel_rfl) (by kernel_rfl) (by kernel_rfl) (by kernel_rfl) (fun _ _ _ h => h) (.inl ⟨by kernel_rfl, fun W hW => by go_simp⟩) hS0 ?_
      try simp only [List.setIfInBounds_toArray, List.set_cons_zero, List.set_cons_succ]
      refine wpAnyH_take_atT (i := 17) (v := .pointer (some ⟨b, off + k * 3, none⟩)) 47 rfl (by kernel_rfl) (by kernel_rfl) (by kernel_rfl) (by kernel_rfl) (fun _ _ _ h => h) (.inl ⟨by kernel_rfl, fun W hW => by go_simp⟩) hS0 ?_
      try simp only [List.setIfInBounds_toArray, List.set_cons_zero, List.set_cons_succ]
      refine wpAnyH_take_atT (i := 18) (v := .slice yA m yc) 48 rfl (by kernel_rfl) (by kernel_rfl) (by kernel_rfl) (by kernel_rfl) (fun _ _ _ h => h) (.inl ⟨by kernel_rfl, fun W hW => by have hx1 := (cells.out W hW).1; go_simp⟩) hS0 ?_
      try simp only [List.setIfInBounds_toArray, List.set_cons_zero, List.set_cons_succ]
      refine wpAnyH_take_atT (i := 19) (v := .slice (some ⟨b, off, none⟩) n c) 49 rfl (by kernel_rfl) (by kernel_rfl) (by kernel_rfl) (by kernel_rfl) (fun _ _ _ h => h) (.inl ⟨by kernel_rfl, fun W hW => by go_simp⟩) hS0 ?_
      try simp only [List.setIfInBounds_toArray, List.set_cons_zero, List.set_cons_succ]
      refine wpAnyH_take_atT (i := 20) (v := .int .i64 (k : Int)) 50 rfl (by kernel_rfl) (by kernel_rfl) (by kernel_rfl) (by kernel_rfl) (fun _ _ _ h => h) (.inl ⟨by kernel_rfl, fun W hW => by go_simp⟩) hS0 ?_
      try simp only [List.setIfInBounds_toArray, List.set_cons_zero, List.set_cons_succ]
      refine wpAnyH_take_atT (i := 21) (v := .pointer (some ⟨b, off + k * 3, none⟩)) 51 rfl (by kernel_rfl) (by kernel_rfl) (by kernel_rfl) (by kernel_rfl) (fun _ _ _ h => h) (.inl ⟨by kernel_rfl, fun W hW => by go_simp⟩) hS0 ?_
      try simp only [List.setIfInBounds_toArray, List.set_cons_zero, List.set_cons_succ]
      refine wpAnyH_take_atT (i := 22) (v := .pointer (some ⟨b, off + k * 3 + 1, none⟩)) 52 rfl (by kernel_rfl) (by kernel_rfl) (by kernel_rfl) (by kernel_rfl) (fun _ _ _ h => h) (.inl ⟨by kernel_rfl, fun W hW => by go_simp⟩) hS0 ?_
      try simp only [List.setIfInBounds_toArray, List.set_cons_zero, List.set_cons_succ]
      refine wpAnyH_take_atT (i := 23) (v := .int .i64 yn) 53 rfl (by kernel_rfl) (by kernel_rfl) (by kernel_rfl) (by kernel_rfl) (fun _ _ _ h => h) (.inl ⟨by kernel_rfl, fun W hW => by have hx1 := (cells.out W hW).2.1; go_simp⟩) hS0 ?_
      try simp only [List.setIfInBounds_toArray, List.set_cons_zero, List.set_cons_succ]
      refine wpAnyH_take_atT (i := 24) (v := .slice (some ⟨b, off, none⟩) n c) 54 rfl (by kernel_rfl) (by kernel_rfl) (by kernel_rfl) (by kernel_rfl) (fun _ _ _ h => h) (.inl ⟨by kernel_rfl, fun W hW => by go_simp⟩) hS0 ?_
      try simp only [List.setIfInBounds_toArray, List.set_cons_zero, List.set_cons_succ]
      refine wpAnyH_take_atT (i := 25) (v := .int .i64 (k : Int)) 55 rfl (by kernel_rfl) (by kernel_rfl) (by kernel_rfl) (by kernel_rfl) (fun _ _ _ h => h) (.inl ⟨by kernel_rfl, fun W hW => by go_simp⟩) hS0 ?_
      try simp only [List.setIfInBounds_toArray, List.set_cons_zero, List.set_cons_succ]
      refine wpAnyH_take_atT (i := 26) (v := .pointer (some ⟨b, off + k * 3, none⟩)) 56 rfl (by kernel_rfl) (by kernel_rfl) (by kernel_rfl) (by kernel_rfl) (fun _ _ _ h => h) (.inl ⟨by kernel_rfl, fun W hW => by go_simp⟩) hS0 ?_
      try simp only [List.setIfInBounds_toArray, List.set_cons_zero, List.set_cons_succ]
      refine wpAnyH_take_atT (i := 27) (v := .pointer (some ⟨b, off + k * 3 + 2, none⟩)) 57 rfl (by kernel_rfl) (by kernel_rfl) (by kernel_rfl) (by kernel_rfl) (fun _ _ _ h => h) (.inl ⟨by kernel_rfl, fun W hW => by go_simp⟩) hS0 ?_
      try simp only [List.setIfInBounds_toArray, List.set_cons_zero, List.set_cons_succ]
      refine wpAnyH_take_atT (i := 28) (v := .int .i64 yh) 58 rfl (by kernel_rfl) (by kernel_rfl) (by kernel_rfl) (by kernel_rfl) (fun _ _ _ h => h) (.inl ⟨by kernel_rfl, fun W hW => by have hx1 := (cells.out W hW).2.2; go_simp⟩) hS0 ?_
      try simp only [List.setIfInBounds_toArray, List.set_cons_zero, List.set_cons_succ]
      refine wpAnyH_ready (rs := [12]) (by kernel_rfl) (by simp) (AllReadyH.cons rfl (fun K' hK => ?_) AllReadyH.nil)
      go_simp
      go_at_call 8
      refine pm.out.mono ?_
      rintro _ w5 ⟨g5, rfl, hs5, hk5, hg5⟩
      have b5 : Below w1.heap.size wX.drew w5 := hk5.below hbX.size (by rintro k (rfl | rfl) <;> omega)
      replace b5 : Below w1.heap.size w1 w5 := hS0.trans b5
      have hr5 := hrD.keepSk hsD.sk hk5
      have kT5 : Blk w5 T 5 (bvs (K1 ++ [90, 90])).toArray := (hk5.block T kTD.lt (hsD.sk.bytes kTD)).trans kTD
      refine hK.out _ _ b5 (fun _ => ?_)
      clear hK K'
      try dsimp only [Act.put]
      try simp only [List.setIfInBounds_toArray, List.set_cons_zero, List.set_cons_succ]
      refine wpAnyH_ready (rs := [29]) (by kernel_rfl) (by simp) (AllReadyH.cons rfl (fun K' hK => ?_) AllReadyH.nil)
      go_simp
      go_at_call 9
      refine (pr.out w5 hr5 b5).mono ?_
      rintro _ w6 ⟨A6, c6, rfl, hr6, hk6, _⟩
      have b6 : Below w1.heap.size w5 w6 := hk6.below b5.size (by rintro k rfl; exact hr5.rb)
      replace b6 : Below w1.heap.size w1 w6 := b5.trans b6
      have hs6 := hs5.keepR hr5 hk6
      have kT6 : Blk w6 T 5 (bvs (K1 ++ [90, 90])).toArray := (hk6.block T kT5.lt (fun e => blk_neT kT5 (e ▸ (show w5.heap[r]? = _ from hr5.box)) (by decide) rfl)).trans kT5
      refine hK.out _ _ b6 (fun _ => ?_)
      clear hK K'
      try dsimp only [Act.put]
      try simp only [List.setIfInBounds_toArray, List.set_cons_zero, List.set_cons_succ]
      refine wpAnyH_take_atT (i := 30) (v := .bool false) 60 rfl (by kernel_rfl) (by kernel_rfl) (by kernel_rfl) (by kernel_rfl) (fun _ _ _ h => h) (.inl ⟨by kernel_rfl, fun W hW => by go_simp⟩) b6 ?_
      try simp only [List.setIfInBounds_toArray, List.set_cons_zero, List.set_cons_succ]
      refine wpAnyH_take_atT (i := 31) (v := .bool false) 61 rfl (by kernel_rfl) (by kernel_rfl) (by kernel_rfl) (by kernel_rfl) (fun _ _ _ h => h) (.inl ⟨by kernel_rfl, fun W hW => by go_simp⟩) b6 ?_
      try simp only [List.setIfInBounds_toArray, List.set_cons_zero, List.set_cons_succ]
      refine wpAnyH_take_atT (i := 32) (v := .slice (some ⟨T, 0, none⟩) m (m + 2)) 62 rfl (by kernel_rfl) (by kernel_rfl) (by kernel_rfl) (by kernel_rfl) (fun _ _ _ h => h) (.inl ⟨by kernel_rfl, fun W hW => by go_simp⟩) b6 ?_
      try simp only [List.setIfInBounds_toArray, List.set_cons_zero, List.set_cons_succ]
      refine wpAnyH_take_atT (i := 33) (v := .slice (some ⟨b, off, none⟩) n c) 63 rfl (by kernel_rfl) (by kernel_rfl) (by kernel_rfl) (by kernel_rfl) (fun _ _ _ h => h) (.inl ⟨by kernel_rfl, fun W hW => by go_simp⟩) b6 ?_
      try simp only [List.setIfInBounds_toArray, List.set_cons_zero, List.set_cons_succ]
      refine wpAnyH_take_atT (i := 34) (v := .int .i64 (k : Int)) 64 rfl (by kernel_rfl) (by kernel_rfl) (by kernel_rfl) (by kernel_rfl) (fun _ _ _ h => h) (.inl ⟨by kernel_rfl, fun W hW => by go_simp⟩) b6 ?_
      try simp only [List.setIfInBounds_toArray, List.set_cons_zero, List.set_cons_succ]
      refine wpAnyH_take_atT (i := 35) (v := .pointer (some ⟨b, off + k * 3, none⟩)) 65 rfl (by kernel_rfl) (by kernel_rfl) (by kernel_rfl) (by kernel_rfl) (fun _ _ _ h => h) (.inl ⟨by kernel_rfl, fun W hW => by go_simp⟩) b6 ?_
      try simp only [List.setIfInBounds_toArray, List.set_cons_zero, List.set_cons_succ]
      refine wpAnyH_take_atT (i := 36) (v := .pointer (some ⟨b, off + k * 3, none⟩)) 66 rfl (by kernel_rfl) (by kernel_rfl) (by kernel_rfl) (by kernel_rfl) (fun _ _ _ h => h) (.inl ⟨by kernel_rfl, fun W hW => by go_simp⟩) b6 ?_
      try simp only [List.setIfInBounds_toArray, List.set_cons_zero, List.set_cons_succ]
      refine wpAnyH_take_atT (i := 37) (v := .slice yA m yc) 67 rfl (by kernel_rfl) (by kernel_rfl) (by kernel_rfl) (by kernel_rfl) (fun _ _ _ h => h) (.inl ⟨by kernel_rfl, fun W hW => by have hx1 := (cells.out W hW).1; go_simp⟩) b6 ?_
      try simp only [List.setIfInBounds_toArray, List.set_cons_zero, List.set_cons_succ]
      refine wpAnyH_ready (rs := [38]) (by kernel_rfl) (by simp) (AllReadyH.cons rfl (fun K' hK => ?_) AllReadyH.nil)
      go_simp
      go_at_call 10
      refine (pf.out w6 b6 kT6).mono ?_
      rintro _ w7 ⟨rfl, bl7⟩
      have b7 : Below w1.heap.size w1 w7 := b6.trans (bl7.mono b6.size)
      have hs7 := hs6.below bl7
      have hr7 := hr6.below bl7
      have kT7 := kT6.below bl7 kT6.lt
      refine hK.out _ _ b7 (fun _ => ?_)
      clear hK K'
      try dsimp only [Act.put]
      try simp only [List.setIfInBounds_toArray, List.set_cons_zero, List.set_cons_succ]
      refine wpAnyH_take_atT (i := 39) (v := .bool false) 69 rfl (by kernel_rfl) (by kernel_rfl) (by kernel_rfl) (by kernel_rfl) (fun _ _ _ h => h) (.inl ⟨by kernel_rfl, fun W hW => by go_simp⟩) b7 ?_
      try simp only [List.setIfInBounds_toArray, List.set_cons_zero, List.set_cons_succ]
      refine wpAnyH_take_atT (i := 40) (v := .bool false) 70 rfl (by kernel_rfl) (by kernel_rfl) (by kernel_rfl) (by kernel_rfl) (fun _ _ _ h => h) (.inl ⟨by kernel_rfl, fun W hW => by go_simp⟩) b7 ?_
      try simp only [List.setIfInBounds_toArray, List.set_cons_zero, List.set_cons_succ]
      refine wpAnyH_take_atT (i := 41) (v := .bool false) 71 rfl (by kernel_rfl) (by kernel_rfl) (by kernel_rfl) (by kernel_rfl) (fun _ _ _ h => h) (.inl ⟨by kernel_rfl, fun W hW => by go_simp⟩) b7 ?_
      try simp only [List.setIfInBounds_toArray, List.set_cons_zero, List.set_cons_succ]
      refine wpAnyH_take_atT (i := 42) (v := .pointer (some ⟨p, 0, none⟩)) 72 rfl (by kernel_rfl) (by kernel_rfl) (by kernel_rfl) (by kernel_rfl) (fun _ _ _ h => h) (.inl ⟨by kernel_rfl, fun W hW => by go_simp⟩) b7 ?_
      try simp only [List.setIfInBounds_toArray, List.set_cons_zero, List.set_cons_succ]
      refine wpAnyH_take_atT (i := 44) (v := .pointer (some ⟨r, 0, none⟩)) 74 rfl (by kernel_rfl) (by kernel_rfl) (by kernel_rfl) (by kernel_rfl) (fun _ _ _ h => h) (.inl ⟨by kernel_rfl, fun W hW => by go_simp⟩) b7 ?_
      try simp only [List.setIfInBounds_toArray, List.set_cons_zero, List.set_cons_succ]
      refine wpAnyH_ready (rs := [43]) (by kernel_rfl) (by simp) (AllReadyH.cons rfl (fun K' hK => ?_) AllReadyH.nil)
      go_simp
      go_at_call 11
      refine (lenL w7 w1.heap.size p g5 M2 hs7.sk (by omega) m2 hm2.out).mono ?_
      rintro _ _ ⟨rfl, rfl⟩
      refine hK.out _ _ b7 (fun _ => ?_)
      clear hK K'
      try dsimp only [Act.put]
      try simp only [List.setIfInBounds_toArray, List.set_cons_zero, List.set_cons_succ]
      refine wpAnyH_ready (rs := [45]) (by kernel_rfl) (by simp) (AllReadyH.cons rfl (fun K' hK => ?_) AllReadyH.nil)
      go_simp
      go_at_call 12
      refine (klen_any w7 w1.heap.size r c6 A6 M2 hr7 m2 hm2.out).mono ?_
      rintro _ _ ⟨rfl, rfl⟩
      refine hK.out _ _ b7 (fun _ => ?_)
      clear hK K'
      try dsimp only [Act.put]
      try simp only [List.setIfInBounds_toArray, List.set_cons_zero, List.set_cons_succ]
      refine wpAnyH_take_atT (i := 46) (v := .bool false) 76 rfl (by kernel_rfl) (by kernel_rfl) (by kernel_rfl) (by kernel_rfl) (fun _ _ _ h => h) (.inl ⟨by kernel_rfl, fun W hW => by go_simp⟩) b7 ?_
      try simp only [List.setIfInBounds_toArray, List.set_cons_zero, List.set_cons_succ]
      refine wpAnyH_take_atT (i := 47) (v := .bool false) 77 rfl (by kernel_rfl) (by kernel_rfl) (by kernel_rfl) (by kernel_rfl) (fun _ _ _ h => h) (.inl ⟨by kernel_rfl, fun W hW => by go_simp⟩) b7 ?_
      try simp only [List.setIfInBounds_toArray, List.set_cons_zero, List.set_cons_succ]
      refine wpAnyH_done (by kernel_rfl) ?_ _
      have hm2l := hm2.out
      clear pm pr pf hs6 hr6 kT6 b6 hsD hrD kTD hS0
      have kT8 : ∃ cs : Array Value, Blk w7 T 5 cs ∧ cs.size = m + 2 ∧ ∀ q, q < m + 2 → ∃ x : Nat, x < 256 ∧ cs[q]? = some (.int .u8 (x : Int)) := by
        refine ⟨_, kT7, by simp [bvs_length, hm], fun q hq => ?_⟩
        have hq' : q < (K1 ++ [90, 90]).length := by simp [hm]; omega
        exact ⟨((K1 ++ [90, 90])[q]).toNat, UInt8.toNat_lt _, by rw [List.getElem?_toArray, bvs_get hq']; rfl⟩
      clear kT7
      go_wp2
      obtain ⟨wo, rfl⟩ : ∃ wo : World, wo = wr := ⟨_, rfl⟩
      go_loopw [11] (fun i wr => ∃ (j : Nat) (cs : Array Value), j ≤ m ∧ i = .int .i64 (j : Int) ∧ Blk wr T 5 cs ∧ cs.size = m + 2 ∧ Hid (∀ q, q < m + 2 → ∃ x : Nat, x < 256 ∧ cs[q]? = some (.int .u8 (x : Int))) ∧ SkF wr w1.heap.size p g5 M2 T ∧ RefK wr w1.heap.size r A6 c6 M2 ∧ Below w1.heap.size w1 wr) (fun i _ => m - (intOf i).toNat)
      case atStart => obtain ⟨cs, h1, h2, h3⟩ := kT8; exact ⟨0, cs, by omega, rfl, h1, h2, Lib.hid h3, hs7, hr7, b7⟩
      case round =>
        clear kT8 hs7 hr7 b7
        obtain ⟨j, cs, hj, rfl, hb8, hsz, hx8, hs8, hr8, b8⟩ := hrel
        by_cases hjm : j < m
        · have djm : decide (j < m) = true := by simpa using hjm
          obtain ⟨x, hx, hcx⟩ := hx8.out j (by omega)
          have cx : wr.cell? ⟨T, j, none⟩ = some (.int .u8 (x : Int)) := by rw [hb8.cell j, hcx]
          have fx := hb8.frozen j
          go_wp2
          go_roundw
          case rel =>
            refine ⟨j + 1, cs.setIfInBounds j (.int .u8 (((x : Int) + 1) % 256)), by omega, by go_num, hb8.store _ _, by simp [hsz], Lib.hid (fun q hq => ?_), hs8.store hb8 _ _, RefK.storeT hr8 hb8 _ _, b8.setCell (p := ⟨T, j, none⟩) hTb _⟩
            by_cases e : q = j
            · subst e
              refine ⟨(x + 1) % 256, by omega, ?_⟩
              rw [Array.getElem?_setIfInBounds_self_of_lt (by omega)]
              congr 2
            · obtain ⟨y, hy1, hy2⟩ := hx8.out q hq
              exact ⟨y, hy1, by rw [Array.getElem?_setIfInBounds_ne (fun h => e h.symm)]; exact hy2⟩
          case measure => simp [intOf] <;> omega
        · obtain rfl : m = j := by omega
          have djm : decide (m < m) = false := by simp
          go_wp2
          go_roundw
          case rel => exact ⟨k + 1, g5, c6, A6, M2, by omega, by go_num, hs8.sk, hr8, hri2, by omega, b8⟩
          case measure => simp [intOf] <;> omega
    · obtain rfl : k = n := by omega
      have hdk : decide (k < k) = false := by simp
      have mkT : ∀ W, Below wr.heap.size wr W → ∀ (B' : Option Addr) (n' c' : Nat) (K' : List UInt8) (q : Nat), K'.length = n' → n' ≤ 140737488355328 → Bs w1 B' K' → 1 ≤ q → q ≤ 100000 → Calls Tryd.prog 13 #[.pointer (some ⟨p, 0, none⟩), .pointer (some ⟨r, 0, none⟩), .slice B' n' c', .int .i64 (q : Int)] W fun e w' => e = .returned (.bool true) ∧ Below W.heap.size W w' :=
        fun W hW B' n' c' K' q h1 h2 h3 h4 h5 => told_any W w1.heap.size p g r cr Ar M (hs.below hW) (hrk.below hW) hri.out (by omega) K' B' n' c' h1 h2 (h3.below (hbel.trans (hW.mono hbel.size))) q h4 h5
      have p1 := fun W hW => mkT W hW B mK cB K (1 + most) hmK.out hKl hbK (by omega) (by omega)
      have p2 := fun W hW => mkT W hW none 0 0 [] 1000 rfl (by omega) (Bs.nil_ _ _) (by omega) (by omega)
      have p3 := fun W hW => mkT W hW B mK cB K 1000 hmK.out hKl hbK (by omega) (by omega)
      have e1 : ((1 + most : Nat) : Int) = 1 + (most : Int) := by omega
      simp only [e1] at p1
      have hu : Below wr.heap.size wr wr := Below.refl _ _
      have hud : Below wr.heap.size wr wr.drew := hu.drew
      have hfin : Below w1.heap.size w1 wr := hbel
      replace p1 := Lib.hid p1
      replace p2 := Lib.hid p2
      replace p3 := Lib.hid p3
      clear mkT hs hrk hbel hri e1
      go_wp2_with fail
      refine (p1.out _ hu).mono ?_
      rintro _ q21 ⟨rfl, c21⟩
      have b21 := hu.trans c21
      go_wp2_with fail
      refine (p2.out _ b21).mono ?_
      rintro _ q22 ⟨rfl, c22⟩
      have b22 := b21.trans (c22.mono b21.size)
      go_wp2_with fail
      refine (p3.out _ b22).mono ?_
      rintro _ q23 ⟨rfl, c23⟩
      have b23 := b22.trans (c23.mono b22.size)
      go_wp2_with fail
      refine (lives_any _).mono ?_
      rintro _ q24 ⟨rfl, c24⟩
      have b24 := b23.trans (c24.mono b23.size)
      go_wp2
      go_ret
      exact ⟨rfl, hfin.trans (b24.mono hfin.size)⟩

/-! ### from the walk to the statement (by tail.py) -/
set_option maxRecDepth 100000 in
theorem door_met (os : Os) (args : Array Value) : laidMetH Tryd.prog Rows.skipsPutRow.laid ((World.doorLaid Tryd.prog 24 os).forCall (fun _ _ => 0) ⟨#[], args, []⟩).memory :=
  laidMetH_of_parts3 (fuel := 8) (laidMet_of_run' 8 (by kernel_rfl) (by kernel_rfl)) (by kernel_rfl) (by kernel_rfl)
set_option maxRecDepth 100000 in
theorem lifted (os : Os) (started : os.Started) (H : Type) (enc : TypeId × Value → H) :
    ReturnsInHanded {} Tryd.checked os 3 .any (fun w args => (Rows.skipsPutSpec.pre enc Tryd.prog Tryd.f3 [] false w args ∧ laidMetH Tryd.prog Rows.skipsPutRow.laid w) ∧ sizedMet enc Tryd.prog Tryd.f3 (OpenSpec.ofChange Rows.skipsPutSpec) false w args) (Rows.skipsPutSpec.post enc Tryd.prog Tryd.f3 false true false false) := by
  refine lifted_of_and (C := Tryd.checked) (tb := 4) (n := 3) (X := fun w _ => laidMetH Tryd.prog Rows.skipsPutRow.laid w) (fun _ _ _ hh h => h.of_heap hh) (by kernel_rfl) started (by kernel_rfl) Tryd.func3 (by kernel_rfl) (by kernel_rfl) rfl (by kernel_rfl) Tryd.underlying4 (by kernel_rfl)
    (fun ds hd => by match ds, hd with | [d1, d2, d3], _ => exact ⟨rfl, rfl, rfl⟩)
    (ChangeSpec.witness_shaped (enc := enc) (C := Tryd.checked) (os := os) (X := fun w _ => laidMetH Tryd.prog Rows.skipsPutRow.laid w) false (World.doorLaid Tryd.prog 24 os) #[.slice none 0 0, .slice none 0 0, .int .u8 0] 8 rfl (World.shaped_of_RefB (by kernel_rfl) (by kernel_rfl)) (by kernel_rfl) (by kernel_rfl) (by kernel_rfl) (door_met os _)) ?_
  intro W base args ds before hval hA hsz hX
  rw [Tryd.params3] at hA hval hsz
  obtain ⟨v0, vs0, d0, ds0, p0, q0, rfl, rfl, rfl, h0, r0⟩ := trodAll_cons hA
  obtain ⟨v1, vs1, d1, ds1, p1, q1, rfl, rfl, rfl, h1, r1⟩ := trodAll_cons r0
  obtain ⟨v2, vs2, d2, ds2, p2, q2, rfl, rfl, rfl, h2, r2⟩ := trodAll_cons r1
  obtain ⟨rfl, rfl, rfl⟩ := trodAll_nil r2
  obtain ⟨A0, c0, ls0, rfl, hrd0, hlc0, hls0, hcap0⟩ := open_laids (hval 0 _ _ rfl rfl) h0
  have hc0 := hcap0 hsz 0 rfl rfl
  obtain ⟨A1, c1, l1, rfl, hb1, hlc1, _, hcap1⟩ := open_bytes Tryd.underlying23 Tryd.underlying5 (by kernel_rfl) (by kernel_rfl) (hval 1 _ _ rfl rfl) h1
  have hc1 := hcap1 hsz 1 rfl rfl
  obtain ⟨x2, rfl, hx2⟩ := open_u8 Tryd.underlying5 (hval 2 _ _ rfl rfl) h2
  exact walk W A0 c0 ls0 hrd0 (fun y hy => (hls0 y hy).1) (fun y hy => by have := reachBytes_lt; have := hc0 y hy; have := (hls0 y hy).2.1; omega) A1 c1 l1 (by have := reachBytes_lt; omega) hb1 x2 hx2

theorem over : Rows.skipsPutRow.holds Tryd.pinned (OpenSpec.ofChange Rows.skipsPutSpec) :=
  OpenClaim.holds_of_wide 3 Tryd.f3 rfl rfl rfl rfl rfl rfl rfl ⟨rfl, rfl, rfl, rfl, rfl⟩ rfl rfl rfl rfl rfl (by kernel_rfl) Tryd.func3 (by kernel_rfl)
    (of_decide_eq_true (by kernel_rfl)) (by unfold Func.isWrapper; first | (rw [if_pos (by decide +kernel)]; kernel_rfl) | (rw [if_neg (by decide +kernel)]; exact ⟨rfl, rfl⟩))
    (fun os started H enc _ => lifted os started H enc)

theorem proved : Rows.SkipsPutCardSaid :=
  Claim7.holds_tied_plain_at .later [] [.data, .data, .data] true (true, "fb2d97e55e8bf412b32c711fe2582ecc4e505268f9c8dbf8e46dd0a946ac970e") false
    over (fun _ h => by cases h) (by kernel_rfl) (fun _ h => by cases h) skipsPut_row_tie rfl ⟨rfl, rfl⟩ (by kernel_rfl) rfl
    (fun f fn hf hfn => by
      obtain rfl : f = 3 := Option.some.inj ((show Tryd.prog.funcNamed "herbarium/herbariumlaw08.SkipsPut" = some 3 by kernel_rfl).symm.trans hf) |>.symm
      obtain rfl : fn = Tryd.f3 := (Option.some.inj (Tryd.func3.symm.trans hfn)).symm
      exact ⟨by kernel_rfl, fun j t ht => by
        have hall : (Tryd.f3.params.toList.all fun u => !Tryd.prog.wantsStandIn u) = true := by kernel_rfl
        have hm : t ∈ Tryd.f3.params.toList := Array.mem_toList_iff.2 (Array.mem_of_getElem? ht)
        exact (show Tryd.prog.wantsStandIn t = false by simpa using List.all_eq_true.1 hall t hm)⟩)
    (by kernel_rfl)
end Go.Proofs.YtidnhcningkcaaaDoor.lawSkipsPut
