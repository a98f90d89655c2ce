/- Whatever the order in which facts are put, and their heights, the same facts are told, rising, none alike to another one: for every input, no condition. -/
import Derived.Test.YtdifdbkbpeanhaaMemOrder
import Derived.Deep.RegionHeld3
import Derived.Deep.RegionWith
set_option linter.unusedSimpArgs false
set_option linter.unusedVariables false
namespace Go.Proofs.Ytdifdbkbpeanhaa.lawMemsOrder
open Go Go.RowKit Herb Go.ChangeShapes Go.WideShapes Go.ChangeAt

theorem mems_apart {w w' : World} {base q p g cap q' p' g' cap' : Nat} {A A' : Option Addr} {M M' : List (List UInt8 × Int)} {fs fs' : List Ft} {b b' : Int} {fr fr' : Bool} (h : MemAt w base q p g A cap M fs b fr) (h' : MemAt w base q' p' g' A' cap' M' fs' b' fr') (hk : KeepBut (memS q p g A fs.length cap) w w')
    (hd : ∀ x, memS q p g A fs.length cap x → ¬ memS q' p' g' A' fs'.length cap' x) : MemAt w' base q' p' g' A' cap' M' fs' b' fr' := by
  refine h'.keep hk (fun x hx hx' => hd x hx' hx) (fun x cs f hx hs => ?_)
  obtain ⟨_, _, cs', t, f', hx', ht⟩ := h.blocks hs
  rw [hx] at hx'
  injection hx' with hx'
  injection hx' with _ e _
  subst e
  rcases ht with ht | ht | ht | ht <;> exact absurd ht (by decide)

set_option maxRecDepth 100000 in
set_option maxHeartbeats 3200000 in
theorem walk (w : World) (A : Option Addr) (c : Nat) (ls : List LaM) (hrd : Rd w 8 A ls.length (lmsC ls)) (hls : ∀ y ∈ ls, y.fit) (at_ : Nat) (hat : at_ < 256) (more : Nat) (hmore : more < 256) :
    Calls Try.prog 6 #[.slice A ls.length c, .int .u8 (at_ : Int), .int .u8 (more : Int)] w fun e w' => e = .returned (.bool true) ∧ Below w.heap.size w w' := by
  have hfa : ∀ i, (factAt ls i).fit ∧ (factAt ls i).li = 0 ∧ (factAt ls i).v = ⟨#[]⟩ := fun i => ⟨factAt_fit hls i, by unfold factAt; split <;> rfl, by unfold factAt; split <;> rfl⟩
  obtain ⟨n, hn⟩ : ∃ n, ls.length = n := ⟨_, rfl⟩
  rw [hn] at hrd ⊢
  replace hn := Lib.hid hn
  replace hls := Lib.hid hls
  replace hfa := Lib.hid hfa
  go_enter Try.func6, Try.ntmps6
  by_cases hbig : 60 < n
  · have d1 : decide ((60 : Int) < (n : Int)) = true := decide_eq_true (by omega)
    go_wp2_with fail
    refine (lives_any _).mono ?_
    rintro _ w1 ⟨rfl, b1⟩
    go_wp2
    go_ret
    exact ⟨rfl, b1⟩
  have d1 : decide ((60 : Int) < (n : Int)) = false := decide_eq_false (by omega)
  have hn60 : n ≤ 60 := by omega
  clear hbig
  by_cases hn0 : n = 0
  · have d2 : ((n : Int) == 0) = true := by simp [hn0]
    clear hn0
    go_wp2_with fail
    refine (lives_any _).mono ?_
    rintro _ w1 ⟨rfl, b1⟩
    go_wp2
    go_ret
    exact ⟨rfl, b1⟩
  have d2 : ((n : Int) == 0) = false := by simp; omega
  have hnp : 0 < n := by omega
  clear hn0
  obtain ⟨mo, hmo, hmo7⟩ := u8And7 more hmore
  have hhA : ∀ i : Nat, 1 ≤ (match ls[i]? with | some y => 1 + y.h % 8 | none => 1) ∧ (match ls[i]? with | some y => 1 + y.h % 8 | none => 1) ≤ 8 := by
    intro i
    cases ls[i]? with
    | none => exact ⟨by simp, by simp⟩
    | some y => exact ⟨by show 1 ≤ 1 + y.h % 8; omega, by show 1 + y.h % 8 ≤ 8; omega⟩
  have hhB : ∀ i : Nat, 1 ≤ 1 + ((i : Int) + (mo : Int)) % 8 ∧ 1 + ((i : Int) + (mo : Int)) % 8 ≤ 8 := by intro i; omega
  obtain ⟨hA, hAe⟩ : ∃ hA : Nat → Int, (fun i => match ls[i]? with | some y => 1 + y.h % 8 | none => 1) = hA := ⟨_, rfl⟩
  obtain ⟨hB, hBe⟩ : ∃ hB : Nat → Int, (fun i : Nat => 1 + ((i : Int) + (mo : Int)) % 8) = hB := ⟨_, rfl⟩
  replace hhA : ∀ i, 1 ≤ hA i ∧ hA i ≤ 8 := by rw [← hAe]; exact hhA
  replace hhB : ∀ i, 1 ≤ hB i ∧ hB i ≤ 8 := by rw [← hBe]; exact hhB
  have okA := stA_ok (f := factAt ls) (h := hA) (fun i => (hfa.out i).1) (fun i => by rw [(hfa.out i).2.2]; decide)
  have okB := stA_ok (f := fun i => factAt ls (sig n at_ i)) (h := hB) (fun i => (hfa.out _).1) (fun i => by rw [(hfa.out _).2.2]; decide)
  have two := two_mems (f := factAt ls) (g := fun i => factAt ls (sig n at_ i)) (n := n) hfa.out (fun i => hfa.out _) hhA hhB (fun i hi => by obtain ⟨j, hj, e⟩ := sig_onto (a := at_) hi; exact ⟨j, hj, by rw [e]⟩) (fun j hj => ⟨sig n at_ j, sig_lt hj, rfl⟩)
  replace hhA := Lib.hid hhA
  replace hhB := Lib.hid hhB
  replace hAe := Lib.hid hAe
  replace hBe := Lib.hid hBe
  replace okA := Lib.hid okA
  replace okB := Lib.hid okB
  replace two := Lib.hid two
  go_wp2_with fail
  refine (mnew_any w).mono ?_
  rintro _ w1 ⟨q1, p1, g10, rfl, mA0, b0⟩
  go_wp2_with fail
  refine (mnew_any w1).mono ?_
  rintro _ w2 ⟨q2, p2, g20, rfl, mB0, b1⟩
  have hdis0 : ∀ x, memS q1 p1 g10 none 0 0 x → ¬ memS q2 p2 g20 none 0 0 x := fun x h h' => by
    have e1 := (mA0.blocks h).2.1
    have e2 := (mB0.blocks h').1
    omega
  replace mA0 := mA0.below b1
  replace mB0 : MemAt w2 w.heap.size q2 p2 g20 none 0 [] [] 0 false := ⟨mB0.box, mB0.sk.mono b0.size, mB0.row.mono b0.size, Nat.le_trans b0.size mB0.qb, mB0.ix⟩
  replace b0 := b0.trans (b1.mono b0.size)
  clear b1
  go_wp2
  go_loopw [9] (fun i wr => ∃ (k g1 cap1 : Nat) (A1 : Option Addr) (g2 cap2 : Nat) (A2 : Option Addr), k ≤ n ∧ i = .int .i64 (k : Int) ∧ MemS wr w.heap.size q1 p1 g1 A1 cap1 (stA (factAt ls) hA k) false ∧ MemS wr w.heap.size q2 p2 g2 A2 cap2 (stA (fun i => factAt ls (sig n at_ i)) hB k) false ∧
      (∀ x, memS q1 p1 g1 A1 (stA (factAt ls) hA k).fs.length cap1 x → ¬ memS q2 p2 g2 A2 (stA (fun i => factAt ls (sig n at_ i)) hB k).fs.length cap2 x) ∧ Below w.heap.size w wr) (fun i _ => n - (intOf i).toNat)
  case atStart => exact ⟨0, g10, 0, none, g20, 0, none, by omega, rfl, mA0, mB0, hdis0, b0⟩
  case round =>
    clear mA0 mB0 hdis0 b0
    obtain ⟨k, g1, cap1, A1, g2, cap2, A2, hk, rfl, mA, mB, hdis, hbel⟩ := hrel
    by_cases hlt : k < n
    · obtain ⟨b, off, y, rfl, hy, c0, c1, c2, c3, c4, c5, c6, _⟩ := lms_atP (hrd.below hbel) hn.out hlt
      have hf1 : factAt ls k = bareF y.f := by unfold factAt; rw [hy]
      have hh1 : hA k = 1 + y.h % 8 := by rw [← hAe.out]; show (match ls[k]? with | some y => 1 + y.h % 8 | none => 1) = _; rw [hy]
      obtain ⟨⟨yk, yva, yse, yli, yki, yv⟩, yh, yz⟩ := y
      simp only at c0 c1 c2 c3 c4 c5 c6 hh1
      replace hf1 : factAt ls k = ⟨yk, yva, yse, 0, yki, ⟨#[]⟩⟩ := hf1
      obtain ⟨r, hr⟩ : ∃ r, yh % 8 = r := ⟨_, rfl⟩
      have hr0 : 0 ≤ r ∧ r ≤ 7 := by omega
      have hra : bits .and .i64 yh 7 = r := by rw [i64And7, hr]
      rw [hr] at hh1
      replace hr := Lib.hid hr
      have hdk : decide (k < n) = true := by simpa using hlt
      have hbx := (Below.refl wr.heap.size wr).alloc (Nat.le_refl _) (.cells #[.string yk, .int .u32 (yva : Int), .int .u64 (yse : Int), .int .u64 0, .int .u8 (yki : Int), .string ⟨#[]⟩] 31)
      have kx := Blk.new wr 31 #[.string yk, .int .u32 (yva : Int), .int .u64 (yse : Int), .int .u64 0, .int .u8 (yki : Int), .string ⟨#[]⟩]
      have mA1 := MemAt.below mA hbx
      have mB1 := MemAt.below mB hbx
      have hb1 := hbel.trans (hbx.mono hbel.size)
      clear mA mB
      by_cases hg : 1000 < yk.size
      · have pg := greatFt_any (wr.alloc (.cells #[.string yk, .int .u32 (yva : Int), .int .u64 (yse : Int), .int .u64 0, .int .u8 (yki : Int), .string ⟨#[]⟩] 31)) ⟨yk, yva, yse, 0, yki, ⟨#[]⟩⟩ true ⟨fun _ => .inl hg, fun _ => rfl⟩
        clear hg
        go_wp2_with fail
        refine pg.mono ?_
        clear pg
        rintro _ w3 ⟨rfl, b3⟩
        go_wp2_with fail
        refine (lives_any _).mono ?_
        rintro _ w4 ⟨rfl, b4⟩
        have b23 := hb1.trans (b3.mono hb1.size)
        have bb := b23.trans (b4.mono b23.size)
        go_wp2
        go_ret
        exact ⟨rfl, bb⟩
      · have pg := greatFt_any (wr.alloc (.cells #[.string yk, .int .u32 (yva : Int), .int .u64 (yse : Int), .int .u64 0, .int .u8 (yki : Int), .string ⟨#[]⟩] 31)) ⟨yk, yva, yse, 0, yki, ⟨#[]⟩⟩ false ⟨fun h => (by cases h), fun h => (h.elim (fun h => absurd h hg) (fun h => absurd h (show ¬ 1000 < (0 : Nat) by omega)))⟩
        have hk1000 : yk.size ≤ 1000 := by omega
        clear hg
        go_wp2_with fail
        refine pg.mono ?_
        clear pg c0 c1 c2 c3 c4 c5 c6
        rintro _ w3 ⟨rfl, b3⟩
        have b3d := b3.drew
        have mA3 := MemAt.below mA1 b3d
        have mB3 := MemAt.below mB1 b3d
        have hb3 := hb1.trans (b3d.mono hb1.size)
        have kx3 := (kx.below b3 kx.lt).cell
        obtain ⟨b', off', y', he, hy', e0, e1, e2, e3, e4, e5, e6, _⟩ := lms_atP (hrd.below (hb1.trans (b3.mono hb1.size))) hn.out hlt
        cases he
        rw [hy] at hy'
        cases hy'
        simp only at e0 e1 e2 e3 e4 e5 e6
        clear mA1 mB1 kx hb1 b3 b3d hbx hbel e0 e1 e2 e3 e4 e5 hy
        have pc := mput_step mA3 (okA.out k) (by omega) ⟨yk, yva, yse, 0, yki, ⟨#[]⟩⟩ (by rw [← hf1]; exact (hfa.out k).1) (by show (0 : Nat) ≤ _; omega) (1 + r)
        have eA : (stepM (stA (factAt ls) hA k) ⟨yk, yva, yse, 0, yki, ⟨#[]⟩⟩ (1 + r)).2 = stA (factAt ls) hA (k + 1) := by rw [stA, hf1, hh1]
        rw [eA] at pc
        replace pc := Lib.hid pc
        replace hf1 := Lib.hid hf1
        replace hh1 := Lib.hid hh1
        replace eA := Lib.hid eA
        have hfol : Try.prog.follows .mixedOrders = true := by kernel_rfl
        go_wp2_with fail
        refine still_tail 9 hfol (by kernel_rfl) ?_
        simp only [List.take_succ_cons, List.take_zero, List.drop_succ_cons, List.drop_zero]
        iterate 9 still_step
        refine wpStill_nil ?_
        go_wp2_with fail
        refine pc.out.mono ?_
        clear pc kx3 e6
        rintro _ w4 ⟨g3, A3, cap3, rfl, mA4, kb, hnew⟩
        have mB4 := mems_apart mA3 mB3 kb hdis
        have hdis4 : ∀ x, memS q1 p1 g3 A3 (stA (factAt ls) hA (k + 1)).fs.length cap3 x → ¬ memS q2 p2 g2 A2 (stA (fun i => factAt ls (sig n at_ i)) hB k).fs.length cap2 x := fun x h h' => (hnew x h).elim (fun h => hdis x h h') (fun h => by have := (MemAt.blocks mB3 h').2.1; omega)
        have hb4 := hb3.trans (MemAt.putB mA3 kb hb3.size)
        clear hnew kb mA3 mB3 hb3 hdis
        obtain ⟨j, hj⟩ : ∃ j, sig n at_ k = j := ⟨_, rfl⟩
        have hjn : j < n := by rw [← hj]; exact sig_lt hlt
        have hji : (((n : Int) - 1 - (k : Int) + (at_ : Int)) % (n : Int)) = (j : Int) := by
          rw [← hj]
          unfold sig
          rw [show (n : Int) - 1 - (k : Int) + (at_ : Int) = ((n - 1 - k + at_ : Nat) : Int) by omega]
          omega
        obtain ⟨b'', off'', z, he, hz, f0, f1, f2, f3, f4, f5, _, _⟩ := lms_atP (hrd.below hb4) hn.out hjn
        cases he
        have hf2 : factAt ls (sig n at_ k) = bareF z.f := by rw [hj]; unfold factAt; rw [hz]
        obtain ⟨⟨zk, zva, zse, zli, zki, zv⟩, zh, zz⟩ := z
        simp only at f0 f1 f2 f3 f4 f5
        replace hf2 : factAt ls (sig n at_ k) = ⟨zk, zva, zse, 0, zki, ⟨#[]⟩⟩ := hf2
        have hby := (Below.refl w4.heap.size w4).alloc (Nat.le_refl _) (.cells #[.string zk, .int .u32 (zva : Int), .int .u64 (zse : Int), .int .u64 0, .int .u8 (zki : Int), .string ⟨#[]⟩] 31)
        have mA5 := MemAt.below mA4 hby
        have mB5 := MemAt.below mB4 hby
        have hb5 := hb4.trans (hby.mono hb4.size)
        have pd := mput_step mB5 (okB.out k) (by omega) ⟨zk, zva, zse, 0, zki, ⟨#[]⟩⟩ (by rw [← hf2]; exact (hfa.out _).1) (by show (0 : Nat) ≤ _; omega) (1 + ((k : Int) + (mo : Int)) % 8)
        have eB : (stepM (stA (fun i => factAt ls (sig n at_ i)) hB k) ⟨zk, zva, zse, 0, zki, ⟨#[]⟩⟩ (1 + ((k : Int) + (mo : Int)) % 8)).2 = stA (fun i => factAt ls (sig n at_ i)) hB (k + 1) := by rw [stA, hf2, ← hBe.out]
        rw [eB] at pd
        replace pd := Lib.hid pd
        replace hf2 := Lib.hid hf2
        replace eB := Lib.hid eB
        replace hj := Lib.hid hj
        clear mA4 mB4 hby hz
        go_wp2_with fail
        refine pd.out.mono ?_
        clear pd f0 f1 f2 f3 f4 f5
        rintro _ w6 ⟨g4, A4, cap4, rfl, mB6, kb, hnew⟩
        have mA6 := mems_apart mB5 mA5 kb (fun x h h' => hdis4 x h' h)
        have hdis6 : ∀ x, memS q1 p1 g3 A3 (stA (factAt ls) hA (k + 1)).fs.length cap3 x → ¬ memS q2 p2 g4 A4 (stA (fun i => factAt ls (sig n at_ i)) hB (k + 1)).fs.length cap4 x := fun x h h' => (hnew x h').elim (fun h' => hdis4 x h h') (fun h' => by have := (MemAt.blocks mA5 h).2.1; omega)
        have hb6 := hb5.trans (MemAt.putB mB5 kb hb5.size)
        clear hnew kb mA5 mB5 hb5 hdis4 hb4
        go_wp2
        go_roundw
        case rel => exact ⟨k + 1, g3, cap3, A3, g4, cap4, A4, by omega, by go_num, mA6, mB6, hdis6, hb6⟩
        case measure => simp [intOf] <;> omega
    · obtain rfl : k = n := by omega
      have hdk : decide (k < k) = false := by simp
      have ok1 := okA.out k
      have ok2 := okB.out k
      obtain ⟨tw1, tw2⟩ := two.out
      generalize stA (factAt ls) hA k = s1 at mA hdis ok1 tw1 tw2
      generalize stA (fun i => factAt ls (sig k at_ i)) hB k = s2 at mB hdis ok2 tw1 tw2
      clear hdis okA okB two
      have hfl := ok1.few
      have hml := ok1.len
      have hfl2 := ok2.few
      have hml2 := ok2.len
      have pf := mfacts_any _ q1 p1 g1 cap1 A1 s1.M s1.fs s1.b false wr mA (by omega)
      obtain ⟨xs, hxs⟩ : ∃ xs, placed s1.fs s1.M = xs := ⟨_, rfl⟩
      have hxl : xs.length = s1.M.length := by rw [← hxs, placed_length]
      have hrise : ∀ i (hi : i + 1 < xs.length), cmpF xs[i].k xs[i + 1].k xs[i].va xs[i + 1].va xs[i].se xs[i + 1].se xs[i].ki xs[i + 1].ki = -1 := by
        intro i hi
        subst hxs
        exact placed_rise ok1 hi
      rw [hxs] at pf
      go_wp2_with fail
      refine pf.mono ?_
      clear pf
      rintro _ w2 ⟨B1, m1, e1, rfl, hm1, row1, b1⟩
      have mA2 := MemAt.below mA b1
      have mB2 := MemAt.below mB b1
      have hb2 := hbel.trans (b1.mono hbel.size)
      have r1 := Rd.of_own row1
      clear mA mB b1 row1 hbel
      have pf := mfacts_any _ q2 p2 g2 cap2 A2 s2.M s2.fs s2.b false w2 mB2 (by omega)
      rw [← tw1, hxs] at pf
      have hm12 : s2.M.length = m1 := by
        have := congrArg List.length tw1
        rw [placed_length, placed_length] at this
        omega
      have hm1' : s1.fs.length = m1 := by omega
      have hxm : xs.length = m1 := by omega
      have hm60 : m1 ≤ 60 := by omega
      replace hxs := Lib.hid hxs
      replace tw1 := Lib.hid tw1
      replace hm1 := Lib.hid hm1
      replace hm12 := Lib.hid hm12
      replace hxl := Lib.hid hxl
      replace hml := Lib.hid hml
      replace hml2 := Lib.hid hml2
      replace tw2 := Lib.hid tw2
      replace hrise := Lib.hid hrise
      replace hm1' := Lib.hid hm1'
      replace hxm := Lib.hid hxm
      go_wp2_with fail
      refine pf.mono ?_
      clear pf
      rintro _ w3 ⟨B2, m2, e2, rfl, hm2, row2, b2⟩
      rw [hm12.out] at hm2
      subst hm2
      have mA3 := MemAt.below mA2 b2
      have mB3 := MemAt.below mB2 b2
      have hb3 := hb2.trans (b2.mono hb2.size)
      have r2 := Rd.of_own row2
      replace r1 := r1.below b2
      clear mA2 mB2 b2 row2 hb2
      have ps := sameFt_yes w3 B1 B2 m1 m1 m1 xs hxm.out (by omega) (by unfold Fs; rw [hxm.out]; exact r1) (by unfold Fs; rw [hxm.out]; exact r2)
      go_wp2_with fail
      refine ps.mono ?_
      clear ps
      rintro _ w4 ⟨rfl, b4⟩
      have mA4 := MemAt.below mA3 b4
      have mB4 := MemAt.below mB3 b4
      have hb4 := hb3.trans (b4.mono hb3.size)
      replace r1 := r1.below b4
      clear mA3 mB3 b4 r2 hb3
      have p1' := mbytes_any mA4
      have p2' := mbytes_any mB4
      rw [← tw2.out] at p2'
      have p3' := mlen_any mA4 m1 hm1'.out
      go_wp2_with fail
      refine p1'.mono ?_
      rintro _ _ ⟨rfl, rfl⟩
      clear p1'
      go_wp2_with fail
      refine p2'.mono ?_
      rintro _ _ ⟨rfl, rfl⟩
      clear p2'
      go_wp2_with fail
      refine p3'.mono ?_
      rintro _ _ ⟨rfl, rfl⟩
      clear p3'
      have hsb : (s1.b == s1.b) = true := by simp
      go_wp2
      go_loopw [13] (fun i wr => ∃ j : Nat, 1 ≤ j ∧ (j ≤ m1 ∨ j = 1) ∧ i = .int .i64 (j : Int) ∧ Below w4.heap.size w4 wr) (fun i _ => m1 + 1 - (intOf i).toNat)
      case atStart => exact ⟨1, by omega, .inr rfl, rfl, Below.refl _ _⟩
      case round =>
        obtain ⟨j, hj1, hj, rfl, hb5⟩ := hrel
        by_cases hlt2 : j < m1
        · have hdn : decide (j < m1) = true := by simpa using hlt2
          obtain ⟨i, rfl⟩ : ∃ i, j = i + 1 := ⟨j - 1, by omega⟩
          have hxi : i + 1 < xs.length := by rw [hxm.out]; exact hlt2
          have hcm := hrise.out i hxi
          obtain ⟨b, off, hB, _, hc⟩ := Fs.at_ (w := wr) (A := B1) (fs := xs) (by unfold Fs; rw [hxm.out]; exact r1.below hb5) hxi
          subst hB
          obtain ⟨f0, f1, f2, f3, f4, f5⟩ := hc i (by omega)
          obtain ⟨h0, h1, h2, h3, h4, h5⟩ := hc (i + 1) hxi
          obtain ⟨x, hx⟩ : ∃ x, xs[i] = x := ⟨_, rfl⟩
          obtain ⟨y, hy⟩ : ∃ y, xs[i + 1] = y := ⟨_, rfl⟩
          rw [hx] at f0 f1 f2 f3 f4 f5
          rw [hy] at h0 h1 h2 h3 h4 h5
          rw [hx, hy] at hcm
          have pc := cmp_any wr.drew x.k y.k x.v y.v x.va y.va x.se y.se x.li y.li x.ki y.ki
          rw [hcm] at pc
          clear hc hcm
          replace hx := Lib.hid hx
          replace hy := Lib.hid hy
          have hfol : Try.prog.follows .mixedOrders = true := by kernel_rfl
          have hwi : IntKind.i64.wrap (i : Int) = (i : Int) := by rw [IntKind.wrap_i64]; omega
          have hii : (i : Int) < (m1 : Int) := by omega
          have hi0 : (0 : Int) ≤ (i : Int) + 1 := by omega
          go_wp2_with fail
          refine still_tail 9 hfol (by kernel_rfl) ?_
          simp only [List.take_succ_cons, List.take_zero, List.drop_succ_cons, List.drop_zero]
          iterate 9 still_step
          refine wpStill_nil ?_
          go_wp2_with fail
          refine pc.mono ?_
          rintro _ w6 ⟨rfl, b6⟩
          have hb6 := hb5.drew.trans (b6.mono hb5.drew.size)
          clear pc
          go_wp2
          go_roundw
          case rel => exact ⟨i + 2, by omega, by omega, by go_num, hb6⟩
          case measure => simp [intOf] <;> omega
        · have hdn : decide (j < m1) = false := by simpa using hlt2
          have hbb := hb4.trans (hb5.mono hb4.size)
          go_wp2_with fail
          refine (lives_any _).mono ?_
          rintro _ w7 ⟨rfl, b7⟩
          have bb := hbb.trans (b7.mono hbb.size)
          go_wp2
          go_ret
          exact ⟨rfl, bb⟩

/-! ### from the walk to the statement (by tail.py) -/
set_option maxRecDepth 100000 in
theorem lifted (os : Os) (started : os.Started) (H : Type) (enc : TypeId × Value → H) :
    ReturnsInHanded {} Try.checked os 6 .any (Rows.memsOrderSpec.pre6 enc Try.prog Try.f6 Rows.memsOrderRow.domain false) (Rows.memsOrderSpec.post enc Try.prog Try.f6 false true false false) := by
  refine lifted_of (C := Try.checked) (tb := 4) (n := 3) (by kernel_rfl) started (by kernel_rfl) Try.func6 (by kernel_rfl) (by kernel_rfl) rfl (by kernel_rfl) Try.underlying4 (by kernel_rfl)
    (fun ds hd => by match ds, hd with | [d1, d2, d3], _ => exact ⟨rfl, rfl, rfl⟩)
    (ChangeSpec.witness6 (enc := enc) (C := Try.checked) false ⟨#[], #[.slice none 0 0, .int .u8 0, .int .u8 0], []⟩ 8 (by kernel_rfl) (by kernel_rfl) (by kernel_rfl) (by kernel_rfl)) ?_
  intro W base args ds before hval hA hsz
  rw [Try.params6] at hA hval hsz
  obtain ⟨v0, vs0, d0, ds0, p0, q0, rfl, rfl, rfl, h0, r0⟩ := trodAll_cons hA
  obtain ⟨v1, vs1, d1, ds1, p1, q1, rfl, rfl, rfl, h1, r1⟩ := trodAll_cons r0
  obtain ⟨v2, vs2, d2, ds2, p2, q2, rfl, rfl, rfl, h2, r2⟩ := trodAll_cons r1
  obtain ⟨rfl, rfl, rfl⟩ := trodAll_nil r2
  obtain ⟨A0, c0, ls0, rfl, hrd0, hlc0, hls0⟩ := open_mlaids (hval 0 _ _ rfl rfl) h0
  obtain ⟨x1, rfl, hx1⟩ := open_u8 Try.underlying5 (hval 1 _ _ rfl rfl) h1
  obtain ⟨x2, rfl, hx2⟩ := open_u8 Try.underlying5 (hval 2 _ _ rfl rfl) h2
  exact walk W A0 c0 ls0 hrd0 hls0 x1 hx1 x2 hx2

theorem over : Rows.memsOrderRow.holds Try.pinned (OpenSpec.ofChange Rows.memsOrderSpec) :=
  OpenClaim.holds_of_wide 6 Try.f6 rfl rfl rfl rfl rfl rfl rfl ⟨rfl, rfl, rfl, rfl, rfl⟩ rfl rfl rfl rfl rfl (by kernel_rfl) Try.func6 (by kernel_rfl)
    (of_decide_eq_true (by kernel_rfl)) (by unfold Func.isWrapper; first | (rw [if_pos (by decide +kernel)]; kernel_rfl) | (rw [if_neg (by decide +kernel)]; exact ⟨rfl, rfl⟩))
    (fun os started H enc _ => lifted os started H enc)

theorem proved : Rows.MemsOrderSaid := over
end Go.Proofs.Ytdifdbkbpeanhaa.lawMemsOrder
