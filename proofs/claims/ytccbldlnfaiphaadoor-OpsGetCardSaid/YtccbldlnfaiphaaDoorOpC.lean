/- Walk of ops.Put. -/
import Derived.Test.YtccbldlnfaiphaaDoorOpB
import Derived.Test.YtccbldlnfaiphaaDoorAppClip
import Derived.Test.YtccbldlnfaiphaaDoorPutText
import Derived.Test.YtccbldlnfaiphaaDoorSheets
import Derived.Deep.RegionLaw
import Derived.Deep.RegionHeld3
import Derived.Deep.CutRange
set_option linter.unusedSimpArgs false
set_option linter.unusedVariables false
namespace Herb.Cm
open Herb Go Go.RowKit
theorem own_cap {w : World} {base : Nat} {e : TypeId} {size n c : Nat} {A : Option Addr} {xs : List Value} (h : w.ownsRow base e size (.slice A n c) n xs) : n ≤ c ∧ c ≤ maxLen := by
  rcases h.2 with ⟨h', h0⟩ | ⟨g, cap, cur, h', _, _, hnc, hcm, _⟩
  · injection h' with _ h1 h2
    omega
  · injection h' with _ h1 h2
    subst h2
    exact ⟨hnc, hcm⟩
theorem own_below {w w' : World} {base n size : Nat} {e : TypeId} {v : Value} {xs : List Value} (h : w.ownsRow base e size v n xs) (hb : Below w.heap.size w w') : w'.ownsRow base e size v n xs :=
  h.kept (row := none) ⟨hb.os, hb.tape, hb.output, hb.size, fun k hk _ => hb.block k hk⟩ (by cases v.ownBlock <;> simp)
theorem bs_of {W : World} {A : Option Addr} {n : Nat} {l : List UInt8} (h : Rd W 1 A n (bvs l)) (hn : l.length = n) : Bs W A l := by
  subst hn
  exact h
def putE (s : Nat) (o : Rec) : List UInt8 := if chk o = true ∧ s ≠ 0 ∧ (encOp s o).length ≤ 65536 then encOp s o else []
def putR (s : Nat) (o : Rec) : Int := if chk o = false ∨ s = 0 then 1 else if 65536 < (encOp s o).length then 3 else 0
/-- The bytes as far as k changes. -/
def encK (s : Nat) (o : Rec) (k : Nat) : List UInt8 := encH s o ++ (o.cs.take k).flatMap encC
theorem encK_zero (s : Nat) (o : Rec) : encK s o 0 = encH s o := by simp [encK]
theorem encK_end (s : Nat) (o : Rec) (k : Nat) (h : o.cs.length ≤ k) : encK s o k = encOp s o := by unfold encK encOp; rw [List.take_of_length_le h]
theorem encK_succ (s : Nat) (o : Rec) (k : Nat) (h : k < o.cs.length) : encK s o (k + 1) = encK s o k ++ encC o.cs[k] := by
  unfold encK
  rw [List.take_succ_eq_append_getElem h, List.flatMap_append, List.append_assoc]
  simp
theorem encK_le (s : Nat) (o : Rec) (k : Nat) : (encK s o k).length ≤ (encOp s o).length := by
  unfold encK encOp
  conv => rhs; rw [← List.take_append_drop k o.cs]
  rw [List.flatMap_append]
  simp only [List.length_append]
  omega
/-- What a region keeps: a block, and all that lay below. -/
theorem keepS_alloc {B : Nat} {t : TypeId} {cs : Array Value} {wa W : World} {o : Obj} (h : (∀ i, W.cell? ⟨B, i, none⟩ = cs[i]?) ∧ Blk W B t cs ∧ Below wa.heap.size wa W) : (∀ i, (W.alloc o).cell? ⟨B, i, none⟩ = cs[i]?) ∧ Blk (W.alloc o) B t cs ∧ Below wa.heap.size wa (W.alloc o) :=
  ⟨(h.2.1.alloc o).cell, h.2.1.alloc o, h.2.2.alloc h.2.2.size o⟩
theorem keepS_below {B : Nat} {t : TypeId} {cs : Array Value} {wa W W' : World} (h : (∀ i, W.cell? ⟨B, i, none⟩ = cs[i]?) ∧ Blk W B t cs ∧ Below wa.heap.size wa W) (hb : Below W.heap.size W W') : (∀ i, W'.cell? ⟨B, i, none⟩ = cs[i]?) ∧ Blk W' B t cs ∧ Below wa.heap.size wa W' :=
  ⟨(h.2.1.below hb h.2.1.lt).cell, h.2.1.below hb h.2.1.lt, h.2.2.trans (hb.mono h.2.2.size)⟩
theorem keepS_bel {B : Nat} {t : TypeId} {cs : Array Value} {wa W : World} (h : (∀ i, W.cell? ⟨B, i, none⟩ = cs[i]?) ∧ Blk W B t cs ∧ Below wa.heap.size wa W) : Below wa.heap.size wa W := h.2.2
end Herb.Cm
namespace Go.Proofs.YtccbldlnfaiphaaDoor
open Go Go.RowKit Herb Herb.Cm

/-- Bytes in a row that was made since. -/
def St (w W : World) (v : Value) (L : List UInt8) : Prop := ∃ g k c cap, v = .slice (some ⟨g, 0, none⟩) k c ∧ k ≤ c ∧ L.length = k ∧ W.ownsRow w.heap.size 5 1 (.slice (some ⟨g, 0, none⟩) k cap) k (bvs L) ∧ Below w.heap.size w W
theorem putText_st {w W : World} {v : Value} {L : List UInt8} (h : St w W v L) (s : ByteArray) (hL : L.length + s.size ≤ 140737488355000) :
    Calls Tryd.prog 29 #[v, .string s] W fun e w' => ∃ g k, e = .returned (.slice (some ⟨g, 0, none⟩) k k) ∧ (L ++ encS s).length = k ∧ St w w' (.slice (some ⟨g, 0, none⟩) k k) (L ++ encS s) ∧ Below W.heap.size W w' := by
  obtain ⟨g, k, c, cap, rfl, hkc, hk, hown, hB⟩ := h
  refine (putText_any W _ k c L hk hkc s (by omega) (Bs.of_own hown).2).mono ?_
  rintro _ w' ⟨k2, g2, cap2, hk2, rfl, hown2, b2⟩
  unfold encS
  rw [← List.append_assoc]
  exact ⟨g2, k2, rfl, hk2, ⟨g2, k2, k2, cap2, rfl, Nat.le_refl _, hk2, own_base hown2 hB.size, hB.trans (b2.mono hB.size)⟩, b2⟩
theorem putN_st {w W : World} {v : Value} {L : List UInt8} (h : St w W v L) (m : Nat) (hm : m < 18446744073709551616) (hL : L.length ≤ 140737488355000) :
    Calls Tryd.prog 28 #[v, .int .u64 (m : Int)] W fun e w' => ∃ g k, e = .returned (.slice (some ⟨g, 0, none⟩) k k) ∧ (L ++ enc m).length = k ∧ St w w' (.slice (some ⟨g, 0, none⟩) k k) (L ++ enc m) ∧ Below W.heap.size W w' := by
  obtain ⟨g, k, c, cap, rfl, hkc, hk, hown, hB⟩ := h
  refine (put_any W _ k c L hk hkc (by omega) (Bs.of_own hown).2 m hm).mono ?_
  rintro _ w' ⟨k2, g2, cap2, hk2, rfl, hown2, b2⟩
  exact ⟨g2, k2, rfl, hk2, ⟨g2, k2, k2, cap2, rfl, Nat.le_refl _, hk2, own_base hown2 hB.size, hB.trans (b2.mono hB.size)⟩, b2⟩
theorem put0_st (w W : World) (hB : Below w.heap.size w W) (m : Nat) (hm : m < 18446744073709551616) :
    Calls Tryd.prog 28 #[.slice none 0 0, .int .u64 (m : Int)] W fun e w' => ∃ g k, e = .returned (.slice (some ⟨g, 0, none⟩) k k) ∧ (enc m).length = k ∧ St w w' (.slice (some ⟨g, 0, none⟩) k k) (enc m) ∧ Below W.heap.size W w' := by
  refine (put_any W none 0 0 [] rfl (by omega) (by omega) (Bs.nil_ _ _) m hm).mono ?_
  rintro _ w' ⟨k2, g2, cap2, hk2, rfl, hown2, b2⟩
  exact ⟨g2, k2, rfl, hk2, ⟨g2, k2, k2, cap2, rfl, Nat.le_refl _, hk2, own_base hown2 hB.size, hB.trans (b2.mono hB.size)⟩, b2⟩
theorem St.below {w W W' : World} {v : Value} {L : List UInt8} (h : St w W v L) (hb : Below W.heap.size W W') : St w W' v L := by
  obtain ⟨g, k, c, cap, rfl, hkc, hk, hown, hB⟩ := h
  exact ⟨g, k, c, cap, rfl, hkc, hk, own_below hown hb, hB.trans (hb.mono hB.size)⟩
theorem St.rd {w W : World} {A : Option Addr} {k c : Nat} {L : List UInt8} (h : St w W (.slice A k c) L) : Rd W 1 A k (bvs L) := by
  obtain ⟨g, k, c, cap, e, hkc, hk, hown, hB⟩ := h
  cases e
  exact Rd.of_own hown
/-- Behind an append onto a slice without room. -/
theorem St.grew {w W W' : World} {v' : Value} {L : List UInt8} {k : Nat} (hB : Below w.heap.size w W) (hk : L.length = k) (h0 : 0 < k) (hown : W'.ownsRow W.heap.size 5 1 v' k (bvs L)) (hg : W.grownBy W' none) : St w W' v' L ∧ Below W.heap.size W W' := by
  obtain ⟨g, cap, rfl, _, _⟩ := hown.form h0
  have hc := own_cap hown
  exact ⟨⟨g, k, cap, cap, rfl, hc.1, hk, own_base hown hB.size, hB.trans ((below_of_grown hg).mono hB.size)⟩, below_of_grown hg⟩

set_option maxRecDepth 100000 in
set_option maxHeartbeats 6400000 in
theorem opPut_any (w : World) (hS : Sets w) (s : Nat) (hs : s < 18446744073709551616) (kind : Nat) (br ot : ByteArray) (pl : Nat) (A : Option Addr) (n c : Nat) (cs : List Ch) (hn : cs.length = n) (hn2 : n ≤ 1000000000) (hb : Cs w A cs) (hbr : br.size ≤ 140737488355328) (hot : ot.size ≤ 140737488355328)
    (hpl : pl < 18446744073709551616) (hfit : ∀ x ∈ cs, ChFit x) :
    Calls Tryd.prog 12 #[.int .u64 (s : Int), .agg #[.int .u8 (kind : Int), .string br, .string ot, .int .u64 (pl : Int), .slice A n c]] w
      fun e w' => ∃ A' k, e = .returned (.tuple #[.slice A' k k, .int .i64 (putR s ⟨kind, br, ot, pl, cs⟩)]) ∧ (putE s ⟨kind, br, ot, pl, cs⟩).length = k ∧ Bs w' A' (putE s ⟨kind, br, ot, pl, cs⟩) ∧ Own1 w' w.heap.size w'.heap.size A' k k ∧ Below w.heap.size w w' := by
  obtain ⟨R, hR⟩ : ∃ R, putR s ⟨kind, br, ot, pl, cs⟩ = R := ⟨_, rfl⟩
  obtain ⟨E, hE⟩ : ∃ E, putE s ⟨kind, br, ot, pl, cs⟩ = E := ⟨_, rfl⟩
  rw [hR, hE]
  have h0 := (Below.refl w.heap.size w).alloc (Nat.le_refl _) (.cells #[.int .u8 (kind : Int), .string br, .string ot, .int .u64 (pl : Int), .slice A n c] 26)
  have kb := Blk.new w 26 #[.int .u8 (kind : Int), .string br, .string ot, .int .u64 (pl : Int), .slice A n c]
  obtain ⟨w0, hw0⟩ : ∃ w0, w.alloc (.cells #[.int .u8 (kind : Int), .string br, .string ot, .int .u64 (pl : Int), .slice A n c] 26) = w0 := ⟨_, rfl⟩
  rw [hw0] at h0 kb
  have cc := check_any w0 (hS.below h0) kind br ot pl A n c cs hn hn2 (hb.below h0) hbr hot
  obtain ⟨M, hM⟩ : ∃ M, chk ⟨kind, br, ot, pl, cs⟩ = M := ⟨_, rfl⟩
  rw [hM] at cc
  replace cc := Lib.hid cc
  replace hn := Lib.hid hn
  replace hS := Lib.hid hS
  replace hE := Lib.hid hE
  replace hR := Lib.hid hR
  have fs : ((s : Int) == 0) = decide (s = 0) := by by_cases h : s = 0 <;> simp [h]
  cases M
  · obtain rfl : E = [] := by rw [← hE.out]; unfold putE; rw [if_neg (by rw [hM]; simp)]
    obtain rfl : R = 1 := by rw [← hR.out]; unfold putR; rw [if_pos (.inl hM)]
    replace hM := Lib.hid hM
    clear fs
    have c0 := kb.cell
    go_enter Tryd.func12, Tryd.ntmps12
    go_wp2_with (first | rw [hw0] | fail)
    refine cc.out.mono ?_
    rintro _ w1 ⟨rfl, b1⟩
    clear cc c0
    go_wp2
    go_ret2
    exact ⟨none, 0, rfl, rfl, Bs.nil_ _ _, Own1.none _ _ _, h0.trans (b1.mono h0.size)⟩
  by_cases hs0 : s = 0
  · obtain rfl : E = [] := by rw [← hE.out]; unfold putE; rw [if_neg (by simp [hs0])]
    obtain rfl : R = 1 := by rw [← hR.out]; unfold putR; rw [if_pos (.inr hs0)]
    rw [hs0] at fs
    replace hM := Lib.hid hM
    subst hs0
    have c0 := kb.cell
    go_enter Tryd.func12, Tryd.ntmps12
    go_wp2_with (first | rw [hw0] | fail)
    refine cc.out.mono ?_
    rintro _ w1 ⟨rfl, b1⟩
    clear cc c0
    go_wp2
    go_ret2
    exact ⟨none, 0, rfl, rfl, Bs.nil_ _ _, Own1.none _ _ _, h0.trans (b1.mono h0.size)⟩
  have fs1 : ((s : Int) == 0) = false := by rw [fs]; simp [hs0]
  have hE2 : (if (encOp s ⟨kind, br, ot, pl, cs⟩).length ≤ 65536 then encOp s ⟨kind, br, ot, pl, cs⟩ else []) = E := by
    rw [← hE.out]; unfold putE
    by_cases hl : (encOp s ⟨kind, br, ot, pl, cs⟩).length ≤ 65536
    · rw [if_pos hl, if_pos ⟨hM, hs0, hl⟩]
    · rw [if_neg hl, if_neg (fun h => hl h.2.2)]
  have hR2 : (if 65536 < (encOp s ⟨kind, br, ot, pl, cs⟩).length then (3 : Int) else 0) = R := by
    have hno : ¬ (chk ⟨kind, br, ot, pl, cs⟩ = false ∨ s = 0) := by simp [hM, hs0]
    rw [← hR.out]; unfold putR
    rw [if_neg hno]
  obtain ⟨c1, c2, c3, c4, c5, c6, c7⟩ := chk_parts hM
  simp only at c1 c2 c3 c4 c5 c6 c7
  have hbr12 := (name_size c2).2
  replace hE2 := Lib.hid hE2
  replace hR2 := Lib.hid hR2
  replace hM := Lib.hid hM
  replace kb := Lib.hid kb
  have hel := enc_len64 hs
  have pv := fun W (hB : Below w.heap.size w W) => put0_st w W hB s hs
  replace pv := Lib.hid pv
  replace hel := Lib.hid hel
  clear hE hR fs
  have hk4 : kind ≤ 4 := c1
  have hkd : decide ((kind : Int) < 5) = true := decide_eq_true (by omega)
  obtain ⟨S, hSk⟩ : ∃ S, setOf kind = S := ⟨_, rfl⟩
  obtain ⟨tw, htw⟩ : ∃ b, two kind = b := ⟨_, rfl⟩
  obtain ⟨tr, htr⟩ : ∃ b, trim kind = b := ⟨_, rfl⟩
  obtain ⟨mn, hmn⟩ : ∃ b, many kind = b := ⟨_, rfl⟩
  have hand : (bits .and .i64 S 1 != 0) = tw ∧ (bits .and .i64 S 2 != 0) = tr ∧ (bits .and .i64 S 4 != 0) = mn := by
    subst hSk htw htr hmn
    have : kind = 0 ∨ kind = 1 ∨ kind = 2 ∨ kind = 3 ∨ kind = 4 := by omega
    rcases this with rfl | rfl | rfl | rfl | rfl <;> decide
  obtain ⟨a1, a2, a4⟩ := hand
  rw [htw] at c3
  rw [htr] at c4
  rw [hmn] at c5
  have hH : encH s ⟨kind, br, ot, pl, cs⟩ = enc s ++ [UInt8.ofNat kind] ++ encS br ++ (if tw = true then encS ot else []) ++ (if tr = true then enc pl else []) ++ (if mn = true then enc n else []) := by
    unfold encH
    simp only [htw, htr, hmn, hn.out]
  have hki : (kind : Int) = ((UInt8.ofNat kind).toNat : Int) := by rw [UInt8.toNat_ofNat', Nat.mod_eq_of_lt (by omega)]
  have hot12 : tw = true → ot.size ≤ 12 := fun h => by have c := c3; rw [if_pos h] at c; exact (name_size c).2
  have hsn : ∀ L : List UInt8, bvs L ++ [Value.int .u8 (kind : Int)] = bvs (L ++ [UInt8.ofNat kind]) := fun L => by rw [hki, bvs_snoc]
  have hHl : (encH s ⟨kind, br, ot, pl, cs⟩).length ≤ 200 := by
    rw [hH]
    have e1 := enc_len64 (n := br.size) (by omega)
    have e2 := enc_len64 (n := ot.size) (by omega)
    have e3 := enc_len64 hpl
    have e4 := enc_len64 (n := n) (by omega)
    have e5 : ∀ q : ByteArray, (encS q).length = (enc q.size).length + q.size := fun q => by unfold encS; rw [List.length_append]; rfl
    simp only [List.length_append, e5, List.length_cons, List.length_nil]
    have e6 : (if tw = true then encS ot else []).length ≤ 22 := by
      by_cases h : tw = true
      · rw [if_pos h, e5]; have := hot12 h; omega
      · rw [if_neg h]; simp
    have e7 : (if tr = true then enc pl else []).length ≤ 10 := by split; exact e3; simp
    have e8 : (if mn = true then enc n else []).length ≤ 10 := by split; exact e4; simp
    have e9 := hel.out
    omega
  have hnu : (n : Int) % 18446744073709551616 = (n : Int) := by omega
  replace hH := Lib.hid hH
  replace hki := Lib.hid hki
  replace hsn := Lib.hid hsn
  replace hHl := Lib.hid hHl
  replace hot12 := Lib.hid hot12
  replace hSk := Lib.hid hSk
  replace htw := Lib.hid htw
  replace htr := Lib.hid htr
  replace hmn := Lib.hid hmn
  replace c2 := Lib.hid c2
  replace c3 := Lib.hid c3
  replace c4 := Lib.hid c4
  replace c5 := Lib.hid c5
  replace c6 := Lib.hid c6
  replace c7 := Lib.hid c7
  clear c1
  have c0 := kb.out.cell
  go_enter Tryd.func12, Tryd.ntmps12
  go_wp2_with (first | rw [hw0] | fail)
  refine cc.out.mono ?_
  rintro _ w1 ⟨rfl, b1⟩
  have hB1 := h0.trans (b1.mono h0.size)
  have kb1 := kb.out.below b1 kb.out.lt
  have cw1 := kb1.cell
  have g1 : w1.cell? ⟨0, kind, none⟩ = some (.int .i64 S) := ((hS.out.below hB1).2 kind (by omega)).trans (by rw [hSk.out])
  clear cc c0 b1 kb
  replace kb1 := Lib.hid kb1
  replace hw0 := Lib.hid hw0
  go_wp2_with fail
  go_cut [8] from 23 to 28 (fun v8 wc => St w wc v8 (enc s ++ [UInt8.ofNat kind]) ∧ Below w1.heap.size w1 wc)
  case first =>
    go_region_law (first
      | (refine step_app_clip _ (by rfl) (.tmp 24) (.tmp 27) (by rfl) Tryd.underlying30 info_u8 (by rfl) (by rfl) (by first | exact St.rd st4 | exact (St.rd st4).alloc _) (by have := enc_pos s; omega) _ 1 1 (by rfl) (by first | exact Rd.one w4 5 (.int .u8 (kind : Int)) | exact (Rd.one w1.drew 5 (.int .u8 (kind : Int))).below b4) (by omega) (by unfold maxLen; have := hel.out; omega) (by have := hel.out; omega) ?_; intro v5 w5 hown5 hg5)
      | (go_simp; go_at_call 28; refine (pv.out _ (by first | exact hB1.drew | exact hB1.drew.alloc hB1.size _)).mono ?_; rintro _ w4 ⟨g4, k4, rfl, hk4, st4, b4⟩; have b14 : Below w1.heap.size w1 w4 := (by first | exact (Below.refl w1.heap.size w1).drew.trans b4 | exact ((Below.refl w1.heap.size w1).drew.alloc (Nat.le_refl _) _).trans (b4.mono (by simp))); have c4 := (kb1.out.below b14 kb1.out.lt).cell))
    all_goals
      rw [hsn.out] at hown5
      have hln : (enc s ++ [UInt8.ofNat kind]).length = k4 + 1 := by rw [List.length_append, hk4]; rfl
      have hg := St.grew (w := w) (by first | exact hB1.trans (b14.mono hB1.size) | exact (hB1.trans (b14.mono hB1.size)).alloc (hB1.trans (b14.mono hB1.size)).size _) hln (by omega) hown5 hg5
      go_wp2
      go_meet
      case rel => exact ⟨hg.1, by first | exact b14.trans (hg.2.mono b14.size) | exact (b14.alloc b14.size _).trans (hg.2.mono (by have := b14.size; simp; omega))⟩
  case rest =>
    obtain ⟨st5, b5⟩ := hcut
    have hB5 := hB1.trans (b5.mono hB1.size)
    have kb5 := kb1.out.below b5 kb1.out.lt
    have cw5 := kb5.cell
    have hl5 : (enc s ++ [UInt8.ofNat kind]).length ≤ 11 := by rw [List.length_append]; have := hel.out; simp; omega
    obtain ⟨L5, hL5⟩ : ∃ L, enc s ++ [UInt8.ofNat kind] = L := ⟨_, rfl⟩
    rw [hL5] at st5 hl5
    have hH5 := hH.out
    rw [hL5] at hH5
    replace hH5 := Lib.hid hH5
    clear cw1 g1 kb1 b5 hL5 pv
    go_wp2_with fail
    refine (putText_st st5 br (by omega)).mono ?_
    rintro _ w6 ⟨g6, k6, rfl, hk6, st6, b6⟩
    have hB6 := hB5.trans (b6.mono hB5.size)
    have kb6 := kb5.below b6 kb5.lt
    have cw6 := kb6.cell
    have hl6 : (L5 ++ encS br).length ≤ 40 := by
      have e5 : (encS br).length = (enc br.size).length + br.size := by unfold encS; rw [List.length_append]; rfl
      have := enc_len64 (n := br.size) (by omega)
      rw [List.length_append, e5]; omega
    obtain ⟨L6, hL6⟩ : ∃ L, L5 ++ encS br = L := ⟨_, rfl⟩
    rw [hL6] at st6 hl6
    have hH6 := hH5.out
    rw [hL6] at hH6
    replace hH6 := Lib.hid hH6
    clear cw5 kb5 b6 hL6 hk6 st5 hl5 hH5 hH
    go_upto_if 35 with (fail)
    go_cut [8] from 36 to 39 (fun v8 wc => St w wc v8 (L6 ++ (if tw = true then encS ot else [])) ∧ Below w6.heap.size w6 wc)
    case first =>
      cases tw
      · go_wp2
        go_meet
        case rel => exact ⟨by simpa using st6, Below.refl _ _⟩
      · go_wp2_with fail
        refine (putText_st st6 ot (by have := hot12.out (by trivial); omega)).mono ?_
        rintro _ w7 ⟨g7, k7, rfl, hk7, st7, b7⟩
        go_wp2
        go_meet
        case rel => exact ⟨by simpa using st7, b7⟩
    case rest =>
      obtain ⟨st7, b7⟩ := hcut
      obtain ⟨w7, rfl⟩ : ∃ x : World, x = wc := ⟨_, rfl⟩
      have hB7 := hB6.trans (b7.mono hB6.size)
      have kb7 := kb6.below b7 kb6.lt
      have cw7 := kb7.cell
      have hl7 : (L6 ++ (if tw = true then encS ot else [])).length ≤ 70 := by
        have e5 : (encS ot).length = (enc ot.size).length + ot.size := by unfold encS; rw [List.length_append]; rfl
        have := enc_len64 (n := ot.size) (by omega)
        rw [List.length_append]
        by_cases h : tw = true
        · rw [if_pos h, e5]; have := hot12.out h; omega
        · rw [if_neg h]; simp; omega
      obtain ⟨L7, hL7⟩ : ∃ L, L6 ++ (if tw = true then encS ot else []) = L := ⟨_, rfl⟩
      rw [hL7] at st7 hl7
      have hH7 := hH6.out
      rw [hL7] at hH7
      replace hH7 := Lib.hid hH7
      clear cw6 kb6 b7 hL7 st6 hl6 hH6
      go_upto_if 42 with (fail)
      go_cut [8] from 43 to 46 (fun v8 wc => St w wc v8 (L7 ++ (if tr = true then enc pl else [])) ∧ Below w7.heap.size w7 wc)
      case first =>
        cases tr
        · go_wp2
          go_meet
          case rel => exact ⟨by simpa using st7, Below.refl _ _⟩
        · go_wp2_with fail
          refine (putN_st st7 pl hpl (by omega)).mono ?_
          rintro _ w8 ⟨g8, k8, rfl, hk8, st8, b8⟩
          go_wp2
          go_meet
          case rel => exact ⟨by simpa using st8, b8⟩
      case rest =>
        obtain ⟨st8, b8⟩ := hcut
        obtain ⟨w8, rfl⟩ : ∃ x : World, x = wc := ⟨_, rfl⟩
        have hB8 := hB7.trans (b8.mono hB7.size)
        have kb8 := kb7.below b8 kb7.lt
        have cw8 := kb8.cell
        have hl8 : (L7 ++ (if tr = true then enc pl else [])).length ≤ 90 := by
          have := enc_len64 hpl
          rw [List.length_append]
          by_cases h : tr = true
          · rw [if_pos h]; omega
          · rw [if_neg h]; simp; omega
        obtain ⟨L8, hL8⟩ : ∃ L, L7 ++ (if tr = true then enc pl else []) = L := ⟨_, rfl⟩
        rw [hL8] at st8 hl8
        have hH8 := hH7.out
        rw [hL8] at hH8
        replace hH8 := Lib.hid hH8
        clear cw7 kb7 b8 hL8 st7 hl7 hH7
        go_upto_if 49 with (fail)
        go_cut [8] from 50 to 55 (fun v8 wc => St w wc v8 (L8 ++ (if mn = true then enc n else [])) ∧ Below w8.heap.size w8 wc)
        case first =>
          cases mn
          · go_wp2
            go_meet
            case rel => exact ⟨by simpa using st8, Below.refl _ _⟩
          · go_wp2_with fail
            refine (putN_st st8 n (by omega) (by omega)).mono ?_
            rintro _ w9 ⟨g9, k9, rfl, hk9, st9, b9⟩
            go_wp2
            go_meet
            case rel => exact ⟨by simpa using st9, b9⟩
        case rest =>
          obtain ⟨st9, b9⟩ := hcut
          obtain ⟨w9, rfl⟩ : ∃ x : World, x = wc := ⟨_, rfl⟩
          have hB9 := hB8.trans (b9.mono hB8.size)
          have kb9 := kb8.below b9 kb8.lt
          have cw9 := kb9.cell
          rw [← hH8.out] at st9
          obtain ⟨o, ho⟩ : ∃ o : Rec, (⟨kind, br, ot, pl, cs⟩ : Rec) = o := ⟨_, rfl⟩
          have hocs : o.cs = cs := by rw [← ho]
          rw [ho] at st9 hHl hE2 hR2
          replace ho := Lib.hid ho
          replace hocs := Lib.hid hocs
          clear cw8 kb8 b9 st8 hl8 hH8 hot12 hot hbr12 c2 c3 c4 c5 c6 a1 a2 a4 hki hsn hM
          go_wp2_with fail
          go_loopw [8, 59] (fun v8 v59 wr => ∃ k : Nat, v59 = .int .i64 (k : Int) ∧ k ≤ n ∧ (encK s o k).length ≤ 66000 ∧ St w wr v8 (encK s o k)) (fun _ v59 _ => n - (intOf v59).toNat)
          case atStart => exact ⟨0, rfl, by omega, by rw [encK_zero]; have := hHl.out; omega, by rw [encK_zero]; exact st9⟩
          case round =>
            obtain ⟨k, rfl, hk, hlb, st⟩ := hrel
            obtain ⟨g, m, c8, cap, rfl, hmc, hm, hown, hB⟩ := id st
            replace hm := Lib.hid hm
            clear cw9 st9
            by_cases hlt : k < n
            · obtain ⟨b, off, rfl, hblt, hc⟩ := (hb.below hB).at_ (i := k) (by rw [hn.out]; exact hlt)
              obtain ⟨e0, e1, e2, e3⟩ := hc k (by rw [hn.out]; exact hlt)
              obtain ⟨x, hx⟩ : ∃ x, cs[k]'(by rw [hn.out]; exact hlt) = x := ⟨_, rfl⟩
              have hxm : x ∈ cs := by rw [← hx]; exact List.getElem_mem _
              have hch := chB_parts (c7.out x hxm)
              have hft := hfit x hxm
              rw [hx] at e0 e1 e2 e3
              have hKs := encK_succ s o k (by rw [hocs.out, hn.out]; exact hlt)
              have hx2 : o.cs[k]'(by rw [hocs.out, hn.out]; exact hlt) = x := by simp only [hocs.out]; exact hx
              rw [hx2] at hKs
              obtain ⟨xk, xva, xki, xv⟩ := x
              simp only at e0 e1 e2 e3 hch
              obtain ⟨hft1, hft2⟩ := hft
              simp only at hft1 hft2
              clear hx hx2 hxm hown
              replace hKs := Lib.hid hKs
              replace hc := Lib.hid hc
              by_cases hbig : 65536 < m
              · have d : decide ((65536 : Int) < (m : Int)) = true := decide_eq_true (by omega)
                have hgt : 65536 < (encOp s o).length := by have := encK_le s o k; have := hm.out; omega
                obtain rfl : E = [] := by rw [← hE2.out, if_neg (by omega)]
                obtain rfl : R = 3 := by rw [← hR2.out, if_pos hgt]
                clear hgt
                go_wp2_with fail
                go_ret2
                exact ⟨none, 0, rfl, rfl, Bs.nil_ _ _, Own1.none _ _ _, hB.alloc hB.size _⟩
              · have d : decide ((65536 : Int) < (m : Int)) = false := decide_eq_false (by omega)
                go_wp2_with fail
                obtain ⟨wa, hwa⟩ : ∃ wa, wr.alloc (.cells #[.string xk, .int .u32 (xva : Int), .int .u8 (xki : Int), .string xv] 51) = wa := ⟨_, rfl⟩
                have kx : Blk wa wr.heap.size 51 #[.string xk, .int .u32 (xva : Int), .int .u8 (xki : Int), .string xv] := by rw [← hwa]; exact Blk.new wr _ _
                have ba : Below wr.heap.size wr wa := by rw [← hwa]; exact (Below.refl _ _).alloc (Nat.le_refl _) _
                have sta := st.below ba
                rw [hwa]
                have s0 : (∀ i, wa.drew.cell? ⟨wr.heap.size, i, none⟩ = (#[.string xk, .int .u32 (xva : Int), .int .u8 (xki : Int), .string xv] : Array Value)[i]?) ∧ Blk wa.drew wr.heap.size 51 #[.string xk, .int .u32 (xva : Int), .int .u8 (xki : Int), .string xv] ∧ Below wa.heap.size wa wa.drew := ⟨kx.drew.cell, kx.drew, (Below.refl _ _).drew⟩
                have eS : ∀ q : ByteArray, (encS q).length = (enc q.size).length + q.size := fun q => by unfold encS; rw [List.length_append]; rfl
                have hle1 : (encK s o k ++ encS xk).length ≤ 66050 := by
                  have := enc_len64 (n := xk.size) (by omega)
                  have := hm.out
                  rw [List.length_append, eS]; omega
                have hle2 : (encK s o k ++ encS xk ++ enc xva).length ≤ 66060 := by
                  have := enc_len64 (n := xva) (by omega)
                  rw [List.length_append]; omega
                have hq1 : (encK s o k).length + xk.size ≤ 140737488355000 := by have := hm.out; omega
                have hq2 : xva < 18446744073709551616 := by omega
                have hq3 : (encK s o k ++ encS xk).length ≤ 140737488355000 := by omega
                have hq4 : 0 < (encK s o k ++ encS xk ++ enc xva).length := by rw [List.length_append]; have := enc_pos xva; omega
                have hxu : (xva : Int) % 18446744073709551616 = (xva : Int) := by omega
                have hxw : IntKind.u64.wrap (xva : Int) = (xva : Int) := by rw [IntKind.wrap_u64]; omega
                have hxi : (xki : Int) = ((UInt8.ofNat xki).toNat : Int) := by rw [UInt8.toNat_ofNat', Nat.mod_eq_of_lt hft2]
                have hxn : ∀ L : List UInt8, bvs L ++ [Value.int .u8 (xki : Int)] = bvs (L ++ [UInt8.ofNat xki]) := fun L => by rw [hxi, bvs_snoc]
                replace hxi := Lib.hid hxi
                replace hxn := Lib.hid hxn
                replace hwa := Lib.hid hwa
                replace eS := Lib.hid eS
                go_cut [8] from 66 to 77 (fun v8 wc => St w wc v8 (encK s o k ++ encS xk ++ enc xva ++ [UInt8.ofNat xki]) ∧ Below wa.heap.size wa wc)
                case first =>
                  go_region_held3 (fun W => (∀ i, W.cell? ⟨wr.heap.size, i, none⟩ = (#[.string xk, .int .u32 (xva : Int), .int .u8 (xki : Int), .string xv] : Array Value)[i]?) ∧ Blk W wr.heap.size 51 #[.string xk, .int .u32 (xva : Int), .int .u8 (xki : Int), .string xv] ∧ Below wa.heap.size wa W)
                    (first | with_reducible exact v6 | with_reducible exact v5 | with_reducible exact v4 | with_reducible exact s0 | with_reducible exact ⟨((kx.alloc _).drew).cell, (kx.alloc _).drew, ((Below.refl _ _).alloc (Nat.le_refl _) _).drew⟩ | with_reducible exact keepS_alloc (by with_reducible assumption))
                    (first
                    | (go_at_call 29; (with_reducible refine (putText_st (St.below sta (keepS_bel (by with_reducible assumption))) xk hq1).mono ?_); rintro _ w4 ⟨g4, k4, rfl, hk4, st4, b4⟩; have v4 := keepS_below (by with_reducible assumption) b4)
                    | (have hh5 := st5; refine step_app_clip _ (by rfl) (.tmp 73) (.tmp 76) (by rfl) Tryd.underlying30 info_u8 (by rfl) (by rfl) (by first | exact St.rd st5 | exact (St.rd st5).alloc _) hk5p _ 1 1 (by rfl) (by first | exact Rd.one w5 5 (.int .u8 (xki : Int)) | exact (Rd.one w4 5 (.int .u8 (xki : Int))).below b5 | exact ((Rd.one wa 5 (.int .u8 (xki : Int))).drew.below b4).below b5) (by decide) (by unfold maxLen; omega) (by omega) ?_; intro v6' w6' hown6 hg6; have v6 := keepS_below (by with_reducible assumption) (below_of_grown hg6))
                    | (go_at_call 28; (first | with_reducible refine (putN_st st4 xva hq2 hq3).mono ?_ | with_reducible refine (putN_st (st4.below ((Below.refl _ _).alloc (Nat.le_refl _) _)) xva hq2 hq3).mono ?_); rintro _ w5 ⟨g5, k5, rfl, hk5, st5, b5⟩; have v5 := keepS_below (by with_reducible assumption) b5; have hk5b : k5 ≤ 66060 := (by rw [← hk5]; exact hle2); have hk5p : 0 < k5 := (by rw [← hk5]; exact hq4)))
                  all_goals
                    rw [hxn.out] at hown6
                    have hln : (encK s o k ++ encS xk ++ enc xva ++ [UInt8.ofNat xki]).length = k5 + 1 := by rw [List.length_append, hk5]; rfl
                    have hg := St.grew (w := w) (by first | exact hB.trans ((ba.trans (v5.2.2.mono ba.size)).mono hB.size) | exact (hB.trans ((ba.trans (v5.2.2.mono ba.size)).mono hB.size)).alloc (Nat.le_trans hB.size (ba.trans (v5.2.2.mono ba.size)).size) _) hln (by omega) hown6 hg6
                    go_wp2
                    go_meet
                    case rel => exact ⟨hg.1, v6.2.2⟩
                case rest =>
                  obtain ⟨stc, bc⟩ := hcut
                  obtain ⟨wq, rfl⟩ : ∃ x : World, x = wc := ⟨_, rfl⟩
                  have kq := kx.below bc kx.lt
                  have cq := kq.cell
                  have hlc : (encK s o k ++ encS xk ++ enc xva ++ [UInt8.ofNat xki]).length ≤ m + 53 := by
                    have h1 := hm.out
                    have h2 := eS.out xk
                    have h3 := enc_len64 (n := xk.size) (by omega)
                    have h4 := enc_len64 (n := xva) (by omega)
                    simp only [List.length_append, List.length_cons, List.length_nil]
                    omega
                  have hlv : (encS xv).length ≤ 266 := by
                    have h2 := eS.out xv
                    have h3 := most_le xki
                    have h4 := enc_len64 (n := xv.size) (by omega)
                    omega
                  clear s0 kx sta hxu hxw hle1 hle2 hq1 hq2 hq3 hq4 hxn hwa st
                  by_cases h0 : xki = 0
                  · have f0 : ((xki : Int) == 0) = true := by simp; omega
                    have hKs2 : encK s o (k + 1) = encK s o k ++ encS xk ++ enc xva ++ [UInt8.ofNat xki] ++ encS xv := by
                      rw [hKs.out]; unfold encC; simp only; rw [if_pos h0]; simp only [List.append_assoc]
                    have hlen : (encK s o (k + 1)).length ≤ 66000 := by rw [hKs2, List.length_append]; omega
                    replace hlc := Lib.hid hlc
                    replace hKs2 := Lib.hid hKs2
                    replace hlen := Lib.hid hlen
                    replace h0 := Lib.hid h0
                    go_wp2_with fail
                    refine (putText_st stc xv (by have := hlc.out; have := hch.2.2.2; have := most_le xki; omega)).mono ?_
                    rintro _ wf ⟨gf, kf, rfl, hkf, stf, bf⟩
                    rw [← hKs2.out] at stf
                    clear hkf
                    go_wp2
                    go_roundw
                    case rel =>
                      exact ⟨k + 1, by go_num, by omega, hlen.out, stf⟩
                    case measure => simp [intOf]; omega
                  · have f0 : ((xki : Int) == 0) = false := by simp; omega
                    have hKs2 : encK s o (k + 1) = encK s o k ++ encS xk ++ enc xva ++ [UInt8.ofNat xki] := by
                      rw [hKs.out]; unfold encC; simp only; rw [if_neg h0]; simp only [List.append_assoc, List.append_nil]
                    have hlen : (encK s o (k + 1)).length ≤ 66000 := by rw [hKs2]; omega
                    rw [← hKs2] at stc
                    replace hKs2 := Lib.hid hKs2
                    replace hlen := Lib.hid hlen
                    replace hlc := Lib.hid hlc
                    go_wp2
                    go_roundw
                    case rel =>
                      exact ⟨k + 1, by go_num, by omega, hlen.out, stc⟩
                    case measure => simp [intOf]; omega
            · have hkn : k = n := by omega
              have hKe : encK s o k = encOp s o := encK_end s o k (by rw [hocs.out, hn.out]; omega)
              by_cases hbig : 65536 < m
              · have d : decide ((65536 : Int) < (m : Int)) = true := decide_eq_true (by omega)
                have hgt : 65536 < (encOp s o).length := by rw [← hKe, hm.out]; exact hbig
                obtain rfl : E = [] := by rw [← hE2.out, if_neg (by omega)]
                obtain rfl : R = 3 := by rw [← hR2.out, if_pos hgt]
                clear hgt hKe hkn st
                go_wp2_with fail
                go_ret2
                exact ⟨none, 0, rfl, rfl, Bs.nil_ _ _, Own1.none _ _ _, hB⟩
              · have d : decide ((65536 : Int) < (m : Int)) = false := decide_eq_false (by omega)
                have hgt : (encOp s o).length ≤ 65536 := by rw [← hKe, hm.out]; omega
                obtain rfl : E = encOp s o := by rw [← hE2.out, if_pos hgt]
                obtain rfl : R = 0 := by rw [← hR2.out, if_neg (by omega)]
                rw [hKe] at hown hm
                replace hgt := Lib.hid hgt
                clear hKe hkn st
                go_wp2_with fail
                refine (clip_any _ m c8 hmc wr).mono ?_
                rintro _ _ ⟨rfl, rfl⟩
                go_wp2
                go_ret2
                exact ⟨some ⟨g, 0, none⟩, m, rfl, hm.out, (Bs.of_own hown).2, Own1.of_row hown, hB⟩
end Go.Proofs.YtccbldlnfaiphaaDoor
