/- Walks of the document's plain and Put (layer 7). -/
import Derived.Test.YtccbldlnfaiphaaDoorOpRef
set_option linter.unusedSimpArgs false
set_option linter.unusedVariables false
namespace Go.Proofs.YtccbldlnfaiphaaDoor
open Go Go.RowKit Herb Herb.Cm

/-- Bytes in a row that was made since. -/
def StR (w W : World) (v : Value) (L : List UInt8) : Prop := ∃ A k c, v = .slice A k c ∧ L.length = k ∧ W.ownsRow w.heap.size 5 1 (.slice A k c) k (bvs L) ∧ Below w.heap.size w W
theorem StR.below {w W W' : World} {v : Value} {L : List UInt8} (h : StR w W v L) (hb : Below W.heap.size W W') : StR w W' v L := by
  obtain ⟨A, k, c, rfl, hk, hown, hB⟩ := h
  exact ⟨A, k, c, rfl, hk, own_below hown hb, hB.trans (hb.mono hB.size)⟩
theorem refN_st {w W : World} {v : Value} {L : List UInt8} (h : StR w W v L) (m : Nat) (hm : m < 18446744073709551616) (hL : L.length ≤ 140737488355000) :
    Calls Tryd.prog 56 #[v, .int .u64 (m : Int)] W fun e w' => ∃ v', e = .returned v' ∧ StR w w' v' (L ++ enc m) ∧ Below W.heap.size W w' := by
  obtain ⟨A, k, c, rfl, hk, hown, hB⟩ := h
  refine (refPut_any W A k c L hk (by omega) (Bs.of_own hown).2 m hm).mono ?_
  rintro _ w' ⟨v2, k2, rfl, hk2, hown2, b2⟩
  obtain ⟨A2, c2, rfl⟩ := own_slice hown2
  exact ⟨_, rfl, ⟨A2, k2, c2, rfl, hk2, own_base hown2 hB.size, hB.trans (b2.mono hB.size)⟩, b2⟩
theorem ref0_st (w W : World) (hB : Below w.heap.size w W) (m : Nat) (hm : m < 18446744073709551616) :
    Calls Tryd.prog 56 #[.slice none 0 0, .int .u64 (m : Int)] W fun e w' => ∃ v', e = .returned v' ∧ StR w w' v' (enc m) ∧ Below W.heap.size W w' := by
  refine (refPut_any W none 0 0 [] rfl (by omega) (Bs.nil_ _ _) m hm).mono ?_
  rintro _ w' ⟨v2, k2, rfl, hk2, hown2, b2⟩
  obtain ⟨A2, c2, rfl⟩ := own_slice hown2
  exact ⟨_, rfl, ⟨A2, k2, c2, rfl, hk2, own_base hown2 hB.size, hB.trans (b2.mono hB.size)⟩, b2⟩
theorem refT_st {w W : World} {v : Value} {L : List UInt8} (h : StR w W v L) (s : ByteArray) (hL : L.length + s.size ≤ 140737488355000) :
    Calls Tryd.prog 57 #[v, .string s] W fun e w' => ∃ v', e = .returned v' ∧ StR w w' v' (L ++ encS s) ∧ Below W.heap.size W w' := by
  obtain ⟨A, k, c, rfl, hk, hown, hB⟩ := h
  refine (refPutText_any W A k c L hk s (by omega) (Bs.of_own hown).2).mono ?_
  rintro _ w' ⟨v2, k2, rfl, hk2, hown2, b2⟩
  obtain ⟨A2, c2, rfl⟩ := own_slice hown2
  unfold encS
  rw [← List.append_assoc]
  exact ⟨_, rfl, ⟨A2, k2, c2, rfl, hk2, own_base hown2 hB.size, hB.trans (b2.mono hB.size)⟩, b2⟩
theorem StR.mono {w0 w W : World} {v : Value} {L : List UInt8} (h : StR w W v L) (h0 : Below w0.heap.size w0 w) : StR w0 W v L := by
  obtain ⟨A, k, c, rfl, hk, hown, hB⟩ := h
  exact ⟨A, k, c, rfl, hk, own_base hown h0.size, h0.trans (hB.mono h0.size)⟩
theorem StR.bel {w W : World} {v : Value} {L : List UInt8} (h : StR w W v L) : Below w.heap.size w W := by
  obtain ⟨A, k, c, rfl, hk, hown, hB⟩ := h
  exact hB
/-- Behind an append of a byte. -/
theorem StR.app {w W W' : World} {v v' : Value} {L : List UInt8} {k : Nat} (hB : Below w.heap.size w W) (hk : L.length = k) (hown0 : W.ownsRow w.heap.size 5 1 v k (bvs L)) (x : Nat) (hx : x < 256) {xs : List Value} (hxs : xs = [.int .u8 (x : Int)])
    (hown : W'.ownsRow w.heap.size 5 1 v' (k + 1) (bvs L ++ xs)) (hg : W.grownBy W' v.ownBlock) : StR w W' v' (L ++ [UInt8.ofNat x]) := by
  subst hxs
  have e : bvs L ++ [.int .u8 (x : Int)] = bvs (L ++ [UInt8.ofNat x]) := by
    rw [← bvs_snoc, UInt8.toNat_ofNat', Nat.mod_eq_of_lt hx]
  rw [e] at hown
  obtain ⟨A, c, rfl⟩ := own_slice hown
  exact ⟨A, k + 1, c, rfl, by rw [List.length_append, hk]; rfl, hown, below_app hB hown0 (Nat.le_refl _) hB.size hg⟩

set_option maxRecDepth 100000 in
set_option maxHeartbeats 6400000 in
theorem refPlain_any (w : World) (s : Nat) (hs : s < 18446744073709551616) (kind : Nat) (br ot : ByteArray) (pl : Nat) (A : Option Addr) (n c : Nat) (cs : List Ch) (hn : cs.length = n) (hn2 : n ≤ 100000) (hb : Cs w A cs)
    (hpl : pl < 18446744073709551616) (hfit : ∀ x ∈ cs, ChFit x) (hM : chk ⟨kind, br, ot, pl, cs⟩ = true) :
    Calls Tryd.prog 31 #[.int .u64 (s : Int), .agg #[.int .u8 (kind : Int), .string br, .string ot, .int .u64 (pl : Int), .slice A n c]] w
      fun e w' => ∃ v, e = .returned v ∧ StR w w' v (encOp s ⟨kind, br, ot, pl, cs⟩) := by
  obtain ⟨E, hE⟩ : ∃ E, encOp s ⟨kind, br, ot, pl, cs⟩ = E := ⟨_, rfl⟩
  rw [hE]
  replace hE := Lib.hid hE
  obtain ⟨c1, c2, c3, c4, c5, c6, c7⟩ := chk_parts hM
  simp only at c1 c2 c3 c4 c5 c6 c7
  have hbr12 := (name_size c2).2
  have h0 := (Below.refl w.heap.size w).alloc (Nat.le_refl _) (.cells #[.int .u8 (kind : Int), .string br, .string ot, .int .u64 (pl : Int), .slice A n c] 26)
  have kb := Blk.new w 26 #[.int .u8 (kind : Int), .string br, .string ot, .int .u64 (pl : Int), .slice A n c]
  obtain ⟨W, hW⟩ : ∃ W, w.alloc (.cells #[.int .u8 (kind : Int), .string br, .string ot, .int .u64 (pl : Int), .slice A n c] 26) = W := ⟨_, rfl⟩
  rw [hW] at h0 kb
  replace hn := Lib.hid hn
  replace hM := Lib.hid hM
  replace c2 := Lib.hid c2
  replace c3 := Lib.hid c3
  replace c4 := Lib.hid c4
  replace c5 := Lib.hid c5
  replace c6 := Lib.hid c6
  replace c7 := Lib.hid c7
  have hW := Lib.hid hW
  have p0 := ref0_st W W (Below.refl _ _) s hs
  have cW := kb.cell
  have hel := enc_len64 hs
  replace hel := Lib.hid hel
  have hk5 : kind = 0 ∨ kind = 1 ∨ kind = 2 ∨ kind = 3 ∨ kind = 4 := by omega
  clear c1
  obtain ⟨L1, hL1⟩ : ∃ L, enc s = L := ⟨_, rfl⟩
  rw [hL1] at p0
  have hl1 : L1.length ≤ 10 := by rw [← hL1]; exact hel.out
  replace hL1 := Lib.hid hL1
  go_enter Tryd.func31, Tryd.ntmps31
  go_wp2_with (first | rw [hW.out] | fail)
  refine p0.mono ?_
  clear p0 cW
  rintro _ w1 ⟨v1, rfl, st1, b1⟩
  obtain ⟨A1, k1, cc1, rfl, hk1, own1, hB1⟩ := id st1
  have cW := (kb.below hB1 kb.lt).cell
  have rd1 := Rd.one w1 5 (.int .u8 (kind : Int))
  have hown1 := own_below own1 ((Below.refl w1.heap.size w1).alloc (Nat.le_refl _) (.cells #[.int .u8 (kind : Int)] 5))
  have hB1' := hB1.alloc hB1.size (.cells #[.int .u8 (kind : Int)] 5)
  replace hk1 := Lib.hid hk1
  have hk1b : k1 ≤ 10 := by rw [← hk1.out]; exact hl1
  have hk256 : kind < 256 := by omega
  obtain ⟨L2, hL2⟩ : ∃ L, L1 ++ [UInt8.ofNat kind] = L := ⟨_, rfl⟩
  have hl2 : L2.length ≤ 11 := by rw [← hL2, List.length_append]; show _ + 1 ≤ 11; omega
  clear own1 st1
  go_wp2_with (at_builtin; refine wpList_app _ rfl (.tmp 10) (.tmp 13) rfl Tryd.underlying30 info_u8 rfl (by omega) hown1 rfl _ 1 1 rd1 rfl (oneCell_one rfl) (by unfold maxLen; omega) (by omega) hB1'.size ?_; intro v2 w2 hown2 hgrow2 hlie2; have st2 := StR.app hB1' hk1.out hown1 kind hk256 rfl hown2 hgrow2; rw [hL2] at st2; clear cW hown2 hgrow2 hlie2; have cW := (kb.below st2.bel kb.lt).cell)
  clear hB1' hown1 rd1
  have q3 := refT_st st2 br (by omega)
  refine q3.mono ?_
  clear q3 cW
  rintro _ w3 ⟨v3, rfl, st3, _⟩
  obtain ⟨L3, hL3⟩ : ∃ L, L2 ++ encS br = L := ⟨_, rfl⟩
  have eS : ∀ q : ByteArray, (encS q).length = (enc q.size).length + q.size := fun q => by unfold encS; rw [List.length_append]; rfl
  have hl3 : L3.length ≤ 40 := by rw [← hL3, List.length_append, eS]; have := enc_len64 (n := br.size) (by omega); omega
  rw [hL3] at st3
  have cW := (kb.below st3.bel kb.lt).cell
  replace eS := Lib.hid eS
  clear st2 b1 hB1
  have hH : ∀ k, k ≤ 4 → kind = k → encH s ⟨kind, br, ot, pl, cs⟩ = L3 ++ (if two k then encS ot else []) ++ (if trim k then enc pl else []) ++ (if many k then enc n else []) := by
    intro k _ e
    subst e
    unfold encH
    simp only
    rw [hL1.out, hL2, hL3, hn.out]
  replace hL2 := Lib.hid hL2
  replace hL3 := Lib.hid hL3
  rcases hk5 with rfl | rfl | rfl | rfl | rfl
  · have hHk : encH s ⟨0, br, ot, pl, cs⟩ = L3 ++ enc n := by rw [hH 0 (by omega) rfl]; simp [two, trim, many]
    have p5 := refN_st st3 n (by omega) (by omega)
    have hl5' : (L3 ++ enc n).length ≤ 100 := by rw [List.length_append]; have := enc_len64 (n := n) (by omega); omega
    replace hHk := Lib.hid hHk
    have hnu : (n : Int) % 18446744073709551616 = (n : Int) := by omega
    clear hH
    go_wp2_with fail
    refine p5.mono ?_
    clear p5 cW st3
    rintro _ w5 ⟨v5, rfl, st5', _⟩
    obtain ⟨o, ho⟩ : ∃ o : Rec, (⟨0, br, ot, pl, cs⟩ : Rec) = o := ⟨_, rfl⟩
    have hocs : o.cs = cs := by rw [← ho]
    have st5 : StR W w5 v5 (encK s o 0) := by rw [encK_zero, ← ho, hHk.out]; exact st5'
    have hl5 : (encK s o 0).length ≤ 100 := by rw [encK_zero, ← ho, hHk.out]; exact hl5'
    have hEo : encOp s o = E := by rw [← ho]; exact hE.out
    replace hEo := Lib.hid hEo
    replace ho := Lib.hid ho
    replace hocs := Lib.hid hocs
    clear st5' hl5'
    have cW := (kb.below st5.bel kb.lt).cell
    go_wp2
    go_loopw [5, 6] (fun v5 v6 wr => ∃ k : Nat, k ≤ n ∧ v6 = .int .i64 (k : Int) ∧ (encK s o k).length ≤ 100 + k * 400 ∧ StR W wr v5 (encK s o k)) (fun _ v6 _ => n - (intOf v6).toNat)
    case atStart => exact ⟨0, by omega, rfl, by omega, st5⟩
    case round =>
      obtain ⟨k, hk, rfl, hlk, st⟩ := hrel
      clear cW st5 hl5
      have cW := (kb.below st.bel kb.lt).cell
      by_cases hlt : k < n
      · have hkl : k < cs.length := by rw [hn.out]; exact hlt
        obtain ⟨b, off, rfl, hblt, hc⟩ := (hb.below (h0.trans (st.bel.mono h0.size))).at_ hkl
        obtain ⟨e0, e1, e2, e3⟩ := hc k hkl
        obtain ⟨x, hx⟩ : ∃ x, cs[k] = x := ⟨_, rfl⟩
        have hxm : x ∈ cs := by rw [← hx]; exact List.getElem_mem _
        have hch := chB_parts (c7.out x hxm)
        have hft := hfit x hxm
        have hKs := encK_succ s o k (by rw [hocs.out]; exact hkl)
        have hx2 : o.cs[k]'(by rw [hocs.out]; exact hkl) = x := by simp only [hocs.out]; exact hx
        rw [hx2] at hKs
        rw [hx] at e0 e1 e2 e3
        obtain ⟨xk, xva, xki, xv⟩ := x
        simp only at e0 e1 e2 e3 hch
        obtain ⟨hft1, hft2⟩ := hft
        simp only at hft1 hft2
        have hmv := most_le xki
        have z1 := enc_len64 (n := xk.size) (by omega)
        have z2 := enc_len64 (n := xva) (by omega)
        have z3 := enc_len64 (n := xv.size) (by omega)
        have y1 := eS.out xk
        have y2 := eS.out xv
        have hcl : (encC ⟨xk, xva, xki, xv⟩).length ≤ 400 := by
          unfold encC
          simp only [List.length_append, List.length_cons, List.length_nil, y1]
          by_cases h : xki = 0
          · rw [if_pos h, y2]; omega
          · rw [if_neg h]; simp only [List.length_nil]; omega
        have hlk2 : (encK s o (k + 1)).length ≤ 100 + (k + 1) * 400 := by rw [hKs, List.length_append]; omega
        have hq1 : (encK s o k).length + xk.size ≤ 140737488355000 := by omega
        have hq2 : (encK s o k ++ encS xk).length ≤ 140737488355000 := by rw [List.length_append]; omega
        have hq3 : (encK s o k ++ encS xk ++ enc xva).length ≤ 140737000000000 := by rw [List.length_append, List.length_append]; omega
        have hq4 : (encK s o k ++ encS xk ++ enc xva ++ [UInt8.ofNat xki]).length + xv.size ≤ 140737488355000 := by simp only [List.length_append, List.length_cons, List.length_nil]; omega
        have hxu : (xva : Int) % 18446744073709551616 = (xva : Int) := by omega
        have hxva : xva < 18446744073709551616 := by omega
        obtain ⟨wa, hwa⟩ : ∃ wa, wr.alloc (.cells #[.string xk, .int .u32 (xva : Int), .int .u8 (xki : Int), .string xv] 51) = wa := ⟨_, rfl⟩
        have kx : Blk wa wr.heap.size 51 #[.string xk, .int .u32 (xva : Int), .int .u8 (xki : Int), .string xv] := by rw [← hwa]; exact Blk.new wr _ _
        have ba : Below wr.heap.size wr wa := by rw [← hwa]; exact (Below.refl _ _).alloc (Nat.le_refl _) _
        have sta := st.below ba
        have p6 := refT_st sta xk hq1
        have cx := kx.cell
        clear hc hx hx2 hxm y1 y2 z1 z2 z3 hcl hmv hq1 hlk
        replace hKs := Lib.hid hKs
        replace hwa := Lib.hid hwa
        replace hlk2 := Lib.hid hlk2
        go_wp2_with (first | rw [hwa.out] | fail)
        refine p6.mono ?_
        clear p6 cx cW
        rintro _ w6 ⟨v6, rfl, st6, b6⟩
        have kx6 := kx.below b6 kx.lt
        have cx := kx6.cell
        have p7 := refN_st st6 xva hxva hq2
        go_wp2_with fail
        refine p7.mono ?_
        clear p7 cx st6
        rintro _ w7 ⟨v7, rfl, st7, b7⟩
        have kx7 := kx6.below b7 kx6.lt
        obtain ⟨A7, k7, cc7, rfl, hk7, own7, hB7⟩ := id st7
        have cx := kx7.cell
        have rd7 := Rd.one w7 5 (.int .u8 (xki : Int))
        have b77 := (Below.refl w7.heap.size w7).alloc (Nat.le_refl _) (.cells #[.int .u8 (xki : Int)] 5)
        have hown7 := own_below own7 b77
        have hB7' := hB7.alloc hB7.size (.cells #[.int .u8 (xki : Int)] 5)
        have hk7b : k7 ≤ 140737000000000 := by rw [← hk7]; exact hq3
        replace hk7 := Lib.hid hk7
        have kx7' := kx7.alloc (.cells #[.int .u8 (xki : Int)] 5)
        have hne8 : ∀ w8, (w7.alloc (.cells #[.int .u8 (xki : Int)] 5)).grownBy w8 (Value.ownBlock (.slice A7 k7 cc7)) → Blk w8 wr.heap.size 51 #[.string xk, .int .u32 (xva : Int), .int .u8 (xki : Int), .string xv] := fun w8 hg => by
          refine kx7'.grown hg (fun h => ?_)
          rcases hown7.2 with ⟨h1, _⟩ | ⟨g', cap', cur, hv, _, hgg, _⟩
          · rw [h1] at h; cases h
          · rw [hv] at h
            simp only [Value.ownBlock, Option.some.injEq] at h
            subst h
            exact absurd (hgg.symm.trans kx7') (fun e => by injection e with e; injection e with _ e2; exact absurd e2 (by decide))
        clear own7 st7 kx6 b6 b7
        replace hne8 := Lib.hid hne8
        go_wp2_with (at_builtin; refine wpList_app _ rfl (.tmp 73) (.tmp 76) rfl Tryd.underlying30 info_u8 rfl (by omega) hown7 rfl _ 1 1 rd7 rfl (oneCell_one rfl) (by unfold maxLen; omega) (by omega) hB7'.size ?_; intro v8 w8 hown8 hgrow8 hlie8; have st8 := StR.app hB7' hk7.out hown7 xki hft2 rfl hown8 hgrow8; have kx8 := hne8.out w8 hgrow8; clear cx hown8 hgrow8 hlie8; have cx := kx8.cell; by_cases h0 : xki = 0; (have f0 : ((xki : Int) == 0) = true := (by simp; omega)); rotate_left; (have f0 : ((xki : Int) == 0) = false := (by simp; omega)))
        · have st9 : StR W w8 v8 (encK s o (k + 1)) := by
            rw [hKs.out]
            unfold encC
            simp only
            rw [if_neg h0]
            simpa only [List.append_assoc, List.append_nil] using st8
          clear st8
          go_roundw
          case rel => exact ⟨k + 1, by omega, by go_num, hlk2.out, st9⟩
          case measure => simp [intOf]; omega
        · refine (refT_st st8 xv hq4).mono ?_
          rintro _ w9 ⟨v9, rfl, st9', _⟩
          have st9 : StR W w9 v9 (encK s o (k + 1)) := by
            rw [hKs.out]
            unfold encC
            simp only
            rw [if_pos h0]
            simpa only [List.append_assoc, List.append_nil] using st9'
          clear st8 st9'
          replace h0 := Lib.hid h0
          go_wp2
          go_roundw
          case rel => exact ⟨k + 1, by omega, by go_num, hlk2.out, st9⟩
          case measure => simp [intOf]; omega
      · obtain rfl : k = n := by omega
        have hKe : encK s o k = encOp s o := encK_end s o k (by rw [hocs.out, hn.out]; exact Nat.le_refl _)
        rw [hKe, hEo.out] at st
        clear hKe hlk
        go_wp2
        go_ret
        exact ⟨_, rfl, st.mono h0⟩
  · have hHk : encOp s ⟨1, br, ot, pl, cs⟩ = L3 ++ encS ot := by unfold encOp; rw [hH 1 (by omega) rfl, List.eq_nil_of_length_eq_zero (c5.out rfl)]; simp [two, trim, many]
    rw [hE.out] at hHk
    subst hHk
    have p5 := refT_st st3 ot (by have := c3.out; simp only [two] at this; have := (name_size (by simpa using this)).2; omega)
    clear hH
    go_wp2_with fail
    refine p5.mono ?_
    clear p5 cW st3
    rintro _ w5 ⟨v5, rfl, st5, _⟩
    have cW := (kb.below st5.bel kb.lt).cell
    go_wp2
    go_ret
    exact ⟨_, rfl, st5.mono h0⟩
  · have hHk : encOp s ⟨2, br, ot, pl, cs⟩ = L3 := by unfold encOp; rw [hH 2 (by omega) rfl, List.eq_nil_of_length_eq_zero (c5.out rfl)]; simp [two, trim, many]
    rw [hE.out] at hHk
    subst hHk
    clear hH
    go_wp2
    go_ret
    exact ⟨_, rfl, st3.mono h0⟩
  · have hHk : encH s ⟨3, br, ot, pl, cs⟩ = L3 ++ encS ot ++ enc n := by rw [hH 3 (by omega) rfl]; simp [two, trim, many]
    have hot12 : ot.size ≤ 12 := by have := c3.out; simp only [two] at this; exact (name_size (by simpa using this)).2
    have hl4 : (L3 ++ encS ot).length ≤ 70 := by rw [List.length_append, eS.out]; have := enc_len64 (n := ot.size) (by omega); omega
    have hl5' : (L3 ++ encS ot ++ enc n).length ≤ 100 := by rw [List.length_append]; have := enc_len64 (n := n) (by omega); omega
    have p4 := refT_st st3 ot (by omega)
    replace hHk := Lib.hid hHk
    clear hH
    go_wp2_with fail
    refine p4.mono ?_
    clear p4 cW st3
    rintro _ w4 ⟨v4, rfl, st4, _⟩
    have cW := (kb.below st4.bel kb.lt).cell
    have p5 := refN_st st4 n (by omega) (by omega)
    have hnu : (n : Int) % 18446744073709551616 = (n : Int) := by omega
    go_wp2_with fail
    refine p5.mono ?_
    clear p5 cW st4
    rintro _ w5 ⟨v5, rfl, st5', _⟩
    obtain ⟨o, ho⟩ : ∃ o : Rec, (⟨3, br, ot, pl, cs⟩ : Rec) = o := ⟨_, rfl⟩
    have hocs : o.cs = cs := by rw [← ho]
    have st5 : StR W w5 v5 (encK s o 0) := by rw [encK_zero, ← ho, hHk.out]; exact st5'
    have hl5 : (encK s o 0).length ≤ 100 := by rw [encK_zero, ← ho, hHk.out]; exact hl5'
    have hEo : encOp s o = E := by rw [← ho]; exact hE.out
    replace hEo := Lib.hid hEo
    replace ho := Lib.hid ho
    replace hocs := Lib.hid hocs
    clear st5' hl5'
    have cW := (kb.below st5.bel kb.lt).cell
    go_wp2
    go_loopw [5, 6] (fun v5 v6 wr => ∃ k : Nat, k ≤ n ∧ v6 = .int .i64 (k : Int) ∧ (encK s o k).length ≤ 100 + k * 400 ∧ StR W wr v5 (encK s o k)) (fun _ v6 _ => n - (intOf v6).toNat)
    case atStart => exact ⟨0, by omega, rfl, by omega, st5⟩
    case round =>
      obtain ⟨k, hk, rfl, hlk, st⟩ := hrel
      clear cW st5 hl5
      have cW := (kb.below st.bel kb.lt).cell
      by_cases hlt : k < n
      · have hkl : k < cs.length := by rw [hn.out]; exact hlt
        obtain ⟨b, off, rfl, hblt, hc⟩ := (hb.below (h0.trans (st.bel.mono h0.size))).at_ hkl
        obtain ⟨e0, e1, e2, e3⟩ := hc k hkl
        obtain ⟨x, hx⟩ : ∃ x, cs[k] = x := ⟨_, rfl⟩
        have hxm : x ∈ cs := by rw [← hx]; exact List.getElem_mem _
        have hch := chB_parts (c7.out x hxm)
        have hft := hfit x hxm
        have hKs := encK_succ s o k (by rw [hocs.out]; exact hkl)
        have hx2 : o.cs[k]'(by rw [hocs.out]; exact hkl) = x := by simp only [hocs.out]; exact hx
        rw [hx2] at hKs
        rw [hx] at e0 e1 e2 e3
        obtain ⟨xk, xva, xki, xv⟩ := x
        simp only at e0 e1 e2 e3 hch
        obtain ⟨hft1, hft2⟩ := hft
        simp only at hft1 hft2
        have hmv := most_le xki
        have z1 := enc_len64 (n := xk.size) (by omega)
        have z2 := enc_len64 (n := xva) (by omega)
        have z3 := enc_len64 (n := xv.size) (by omega)
        have y1 := eS.out xk
        have y2 := eS.out xv
        have hcl : (encC ⟨xk, xva, xki, xv⟩).length ≤ 400 := by
          unfold encC
          simp only [List.length_append, List.length_cons, List.length_nil, y1]
          by_cases h : xki = 0
          · rw [if_pos h, y2]; omega
          · rw [if_neg h]; simp only [List.length_nil]; omega
        have hlk2 : (encK s o (k + 1)).length ≤ 100 + (k + 1) * 400 := by rw [hKs, List.length_append]; omega
        have hq1 : (encK s o k).length + xk.size ≤ 140737488355000 := by omega
        have hq2 : (encK s o k ++ encS xk).length ≤ 140737488355000 := by rw [List.length_append]; omega
        have hq3 : (encK s o k ++ encS xk ++ enc xva).length ≤ 140737000000000 := by rw [List.length_append, List.length_append]; omega
        have hq4 : (encK s o k ++ encS xk ++ enc xva ++ [UInt8.ofNat xki]).length + xv.size ≤ 140737488355000 := by simp only [List.length_append, List.length_cons, List.length_nil]; omega
        have hxu : (xva : Int) % 18446744073709551616 = (xva : Int) := by omega
        have hxva : xva < 18446744073709551616 := by omega
        obtain ⟨wa, hwa⟩ : ∃ wa, wr.alloc (.cells #[.string xk, .int .u32 (xva : Int), .int .u8 (xki : Int), .string xv] 51) = wa := ⟨_, rfl⟩
        have kx : Blk wa wr.heap.size 51 #[.string xk, .int .u32 (xva : Int), .int .u8 (xki : Int), .string xv] := by rw [← hwa]; exact Blk.new wr _ _
        have ba : Below wr.heap.size wr wa := by rw [← hwa]; exact (Below.refl _ _).alloc (Nat.le_refl _) _
        have sta := st.below ba
        have p6 := refT_st sta xk hq1
        have cx := kx.cell
        clear hc hx hx2 hxm y1 y2 z1 z2 z3 hcl hmv hq1 hlk
        replace hKs := Lib.hid hKs
        replace hwa := Lib.hid hwa
        replace hlk2 := Lib.hid hlk2
        go_wp2_with (first | rw [hwa.out] | fail)
        refine p6.mono ?_
        clear p6 cx cW
        rintro _ w6 ⟨v6, rfl, st6, b6⟩
        have kx6 := kx.below b6 kx.lt
        have cx := kx6.cell
        have p7 := refN_st st6 xva hxva hq2
        go_wp2_with fail
        refine p7.mono ?_
        clear p7 cx st6
        rintro _ w7 ⟨v7, rfl, st7, b7⟩
        have kx7 := kx6.below b7 kx6.lt
        obtain ⟨A7, k7, cc7, rfl, hk7, own7, hB7⟩ := id st7
        have cx := kx7.cell
        have rd7 := Rd.one w7 5 (.int .u8 (xki : Int))
        have b77 := (Below.refl w7.heap.size w7).alloc (Nat.le_refl _) (.cells #[.int .u8 (xki : Int)] 5)
        have hown7 := own_below own7 b77
        have hB7' := hB7.alloc hB7.size (.cells #[.int .u8 (xki : Int)] 5)
        have hk7b : k7 ≤ 140737000000000 := by rw [← hk7]; exact hq3
        replace hk7 := Lib.hid hk7
        have kx7' := kx7.alloc (.cells #[.int .u8 (xki : Int)] 5)
        have hne8 : ∀ w8, (w7.alloc (.cells #[.int .u8 (xki : Int)] 5)).grownBy w8 (Value.ownBlock (.slice A7 k7 cc7)) → Blk w8 wr.heap.size 51 #[.string xk, .int .u32 (xva : Int), .int .u8 (xki : Int), .string xv] := fun w8 hg => by
          refine kx7'.grown hg (fun h => ?_)
          rcases hown7.2 with ⟨h1, _⟩ | ⟨g', cap', cur, hv, _, hgg, _⟩
          · rw [h1] at h; cases h
          · rw [hv] at h
            simp only [Value.ownBlock, Option.some.injEq] at h
            subst h
            exact absurd (hgg.symm.trans kx7') (fun e => by injection e with e; injection e with _ e2; exact absurd e2 (by decide))
        clear own7 st7 kx6 b6 b7
        replace hne8 := Lib.hid hne8
        go_wp2_with (at_builtin; refine wpList_app _ rfl (.tmp 73) (.tmp 76) rfl Tryd.underlying30 info_u8 rfl (by omega) hown7 rfl _ 1 1 rd7 rfl (oneCell_one rfl) (by unfold maxLen; omega) (by omega) hB7'.size ?_; intro v8 w8 hown8 hgrow8 hlie8; have st8 := StR.app hB7' hk7.out hown7 xki hft2 rfl hown8 hgrow8; have kx8 := hne8.out w8 hgrow8; clear cx hown8 hgrow8 hlie8; have cx := kx8.cell; by_cases h0 : xki = 0; (have f0 : ((xki : Int) == 0) = true := (by simp; omega)); rotate_left; (have f0 : ((xki : Int) == 0) = false := (by simp; omega)))
        · have st9 : StR W w8 v8 (encK s o (k + 1)) := by
            rw [hKs.out]
            unfold encC
            simp only
            rw [if_neg h0]
            simpa only [List.append_assoc, List.append_nil] using st8
          clear st8
          go_roundw
          case rel => exact ⟨k + 1, by omega, by go_num, hlk2.out, st9⟩
          case measure => simp [intOf]; omega
        · refine (refT_st st8 xv hq4).mono ?_
          rintro _ w9 ⟨v9, rfl, st9', _⟩
          have st9 : StR W w9 v9 (encK s o (k + 1)) := by
            rw [hKs.out]
            unfold encC
            simp only
            rw [if_pos h0]
            simpa only [List.append_assoc, List.append_nil] using st9'
          clear st8 st9'
          replace h0 := Lib.hid h0
          go_wp2
          go_roundw
          case rel => exact ⟨k + 1, by omega, by go_num, hlk2.out, st9⟩
          case measure => simp [intOf]; omega
      · obtain rfl : k = n := by omega
        have hKe : encK s o k = encOp s o := encK_end s o k (by rw [hocs.out, hn.out]; exact Nat.le_refl _)
        rw [hKe, hEo.out] at st
        clear hKe hlk
        go_wp2
        go_ret
        exact ⟨_, rfl, st.mono h0⟩
  · have hHk : encOp s ⟨4, br, ot, pl, cs⟩ = L3 ++ enc pl := by unfold encOp; rw [hH 4 (by omega) rfl, List.eq_nil_of_length_eq_zero (c5.out rfl)]; simp [two, trim, many]
    rw [hE.out] at hHk
    subst hHk
    have p5 := refN_st st3 pl hpl (by omega)
    clear hH
    go_wp2_with fail
    refine p5.mono ?_
    clear p5 cW st3
    rintro _ w5 ⟨v5, rfl, st5, _⟩
    have cW := (kb.below st5.bel kb.lt).cell
    go_wp2
    go_ret
    exact ⟨_, rfl, st5.mono h0⟩

set_option maxRecDepth 100000 in
set_option maxHeartbeats 3200000 in
theorem refOpPut_any (w : World) (s : Nat) (hs : s < 18446744073709551616) (kind : Nat) (br ot : ByteArray) (pl : Nat) (A : Option Addr) (n c : Nat) (cs : List Ch) (hn : cs.length = n) (hn2 : n ≤ 99999) (hb : Cs w A cs)
    (hbr : br.size ≤ 140737488355328) (hot : ot.size ≤ 140737488355328) (hpl : pl < 18446744073709551616) (hfit : ∀ x ∈ cs, ChFit x) :
    Calls Tryd.prog 13 #[.int .u64 (s : Int), .agg #[.int .u8 (kind : Int), .string br, .string ot, .int .u64 (pl : Int), .slice A n c]] w
      fun e w' => ∃ A' k c', e = .returned (.tuple #[.slice A' k c', .int .i64 (putR s ⟨kind, br, ot, pl, cs⟩)]) ∧ (putE s ⟨kind, br, ot, pl, cs⟩).length = k ∧ k ≤ c' ∧ Bs w' A' (putE s ⟨kind, br, ot, pl, cs⟩) ∧ Below w.heap.size w w' := by
  obtain ⟨R, hR⟩ : ∃ R, putR s ⟨kind, br, ot, pl, cs⟩ = R := ⟨_, rfl⟩
  obtain ⟨E, hE⟩ : ∃ E, putE s ⟨kind, br, ot, pl, cs⟩ = E := ⟨_, rfl⟩
  obtain ⟨M, hM⟩ : ∃ M, chk ⟨kind, br, ot, pl, cs⟩ = M := ⟨_, rfl⟩
  rw [hR, hE]
  unfold putR at hR
  unfold putE at hE
  rw [hM] at hR hE
  have h0 := (Below.refl w.heap.size w).alloc (Nat.le_refl _) (.cells #[.int .u8 (kind : Int), .string br, .string ot, .int .u64 (pl : Int), .slice A n c] 26)
  have kb := Blk.new w 26 #[.int .u8 (kind : Int), .string br, .string ot, .int .u64 (pl : Int), .slice A n c]
  obtain ⟨W, hW⟩ : ∃ W, w.alloc (.cells #[.int .u8 (kind : Int), .string br, .string ot, .int .u64 (pl : Int), .slice A n c] 26) = W := ⟨_, rfl⟩
  rw [hW] at h0 kb
  have cc := refCheck_any W kind br ot pl A n c cs hn hn2 (hb.below h0) hbr hot
  rw [hM] at cc
  replace hW := Lib.hid hW
  replace hn := Lib.hid hn
  have cW := kb.cell
  by_cases hs0 : s = 0
  · subst hs0
    obtain rfl : R = 1 := by rw [← hR, if_pos (.inr rfl)]
    obtain rfl : E = [] := by rw [← hE, if_neg (by simp)]
    clear hR hE hM cc
    go_enter Tryd.func13, Tryd.ntmps13
    go_wp2_with (first | rw [hW.out] | fail)
    go_ret2
    exact ⟨none, 0, 0, rfl, rfl, by omega, Bs.nil_ _ _, h0⟩
  have f0 : ((s : Int) == 0) = false := by simp; omega
  cases M
  · obtain rfl : R = 1 := by rw [← hR, if_pos (.inl rfl)]
    obtain rfl : E = [] := by rw [← hE, if_neg (by simp)]
    clear hR hE hM
    replace hs0 := Lib.hid hs0
    go_enter Tryd.func13, Tryd.ntmps13
    go_wp2_with (first | rw [hW.out] | fail)
    refine cc.mono ?_
    clear cc cW
    rintro _ w2 ⟨rfl, b2⟩
    go_wp2
    go_ret2
    exact ⟨none, 0, 0, rfl, rfl, by omega, Bs.nil_ _ _, h0.trans (b2.mono h0.size)⟩
  rw [if_neg (by simp [hs0])] at hR
  have pl2 := fun W' (hB : Below w.heap.size w W') => refPlain_any W' s hs kind br ot pl A n c cs hn.out (by omega) (hb.below hB) hpl hfit hM
  replace hM := Lib.hid hM
  replace hs0 := Lib.hid hs0
  replace pl2 := Lib.hid pl2
  obtain ⟨F, hF⟩ : ∃ F, encOp s ⟨kind, br, ot, pl, cs⟩ = F := ⟨_, rfl⟩
  rw [hF] at hR hE
  replace hF := Lib.hid hF
  replace hR := Lib.hid hR
  replace hE := Lib.hid hE
  go_enter Tryd.func13, Tryd.ntmps13
  go_wp2_with (first | rw [hW.out] | fail)
  refine cc.mono ?_
  clear cc cW
  rintro _ w2 ⟨rfl, b2⟩
  have kb2 := kb.below b2 kb.lt
  have cW := kb2.cell
  have hB2 := h0.trans (b2.mono h0.size)
  go_wp2_with fail
  refine (pl2.out w2 hB2).mono ?_
  clear cW
  rintro _ w3 ⟨v, rfl, st⟩
  rw [hF.out] at st
  obtain ⟨A3, k3, c3, rfl, hk3, own3, hB3⟩ := st
  have hB4 := hB2.trans (hB3.mono hB2.size)
  have hkc := own_cap own3
  have hbs := (Bs.of_own own3).2
  clear own3
  by_cases hbig : 65536 < k3
  · have d : decide ((65536 : Int) < (k3 : Int)) = true := decide_eq_true (by omega)
    obtain rfl : R = 3 := by rw [← hR.out, if_pos (by omega)]
    obtain rfl : E = [] := by rw [← hE.out, if_neg (by omega)]
    replace hk3 := Lib.hid hk3
    go_wp2
    go_ret2
    exact ⟨none, 0, 0, rfl, rfl, by omega, Bs.nil_ _ _, hB4⟩
  · have d : decide ((65536 : Int) < (k3 : Int)) = false := decide_eq_false (by omega)
    obtain rfl : R = 0 := by rw [← hR.out, if_neg (by omega)]
    obtain rfl : E = F := by rw [← hE.out, if_pos ⟨by first | rfl | trivial, hs0.out, by omega⟩]
    replace hk3 := Lib.hid hk3
    go_wp2
    go_ret2
    exact ⟨A3, k3, c3, rfl, hk3.out, hkc.1, hbs, hB4⟩
end Go.Proofs.YtccbldlnfaiphaaDoor
