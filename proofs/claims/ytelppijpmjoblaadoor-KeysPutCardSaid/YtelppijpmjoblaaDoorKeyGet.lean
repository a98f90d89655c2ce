/- The walk of keys.Get. -/
import Derived.Test.YtelppijpmjoblaaDoorKeyPlain
import Derived.Test.YtelppijpmjoblaaDoorKeyCmp
import Derived.Deep.RegionHeld3
import Derived.Deep.MidRow
set_option linter.unusedSimpArgs false
set_option linter.unusedVariables false
namespace Herb
open Go Go.RowKit
/-- A fact as cells. -/
def fcs (k : ByteArray) (va se li ki : Nat) (v : ByteArray) : Array Value := #[.string k, .int .u32 (va : Int), .int .u64 (se : Int), .int .u64 (li : Int), .int .u8 (ki : Int), .string v]
def zcs : Array Value := #[.string ⟨#[]⟩, .int .u32 0, .int .u64 0, .int .u64 0, .int .u8 0, .string ⟨#[]⟩]
theorem cells6 {a b c d e f : Value} (ha : a.oneCell' = true) (hb : b.oneCell' = true) (hc : c.oneCell' = true) (hd : d.oneCell' = true) (he : e.oneCell' = true) (hf : f.oneCell' = true) : (#[a, b, c, d, e, f] : Array Value).all (·.oneCell') = true := by
  simp [ha, hb, hc, hd, he, hf]
theorem own_le {w : World} {base base' : Nat} {e : TypeId} {size : Nat} {v : Value} {n : Nat} {xs : List Value} (h : w.ownsRow base e size v n xs) (hb : base' ≤ base) : w.ownsRow base' e size v n xs := by
  refine ⟨h.1, ?_⟩
  rcases h.2 with h0 | ⟨g, cap, cur, h1, h2, h3⟩
  · exact .inl h0
  · exact .inr ⟨g, cap, cur, h1, Nat.le_trans hb h2, h3⟩
end Herb
namespace Go.Proofs.YtelppijpmjoblaaDoor
open Go Go.RowKit Herb

theorem fact_size : (Tryd.prog.info? 26).map (·.size) = some 6 := by kernel_rfl
set_option maxRecDepth 100000 in
set_option maxHeartbeats 1600000 in
theorem get_any (w : World) (A : Option Addr) (n c : Nat) (l : List UInt8) (hn : l.length = n) (hnc : n ≤ c) (hl : n ≤ 1000000) (hb : Bs w A l) (e : Nat) (K : List UInt8) (va se ki : Nat) (hG : getP l = (e, K, va, se, ki)) :
    Calls Tryd.prog 12 #[.slice A n c] w fun e' w' => e' = .returned (.tuple #[.agg #[.string ⟨K.toArray⟩, .int .u32 (va : Int), .int .u64 (se : Int), .int .u64 0, .int .u8 (ki : Int), .string ⟨#[]⟩], .int .i64 (e : Int)]) ∧ Below w.heap.size w w' := by
  obtain ⟨⟨e0, key, rest⟩, hR⟩ : ∃ R, unA [] l = R := ⟨_, rfl⟩
  unfold getP at hG
  rw [hR] at hG
  simp only at hG
  have kb := Blk.new w 26 #[.string ⟨#[]⟩, .int .u32 0, .int .u64 0, .int .u64 0, .int .u8 0, .string ⟨#[]⟩]
  have b0 := (Below.refl w.heap.size w).alloc (Nat.le_refl _) (.cells #[.string ⟨#[]⟩, .int .u32 0, .int .u64 0, .int .u64 0, .int .u8 0, .string ⟨#[]⟩] 26)
  have pp := plain_any (w.alloc (.cells #[.string ⟨#[]⟩, .int .u32 0, .int .u64 0, .int .u64 0, .int .u8 0, .string ⟨#[]⟩] 26)) A n c l hn hnc hl (hb.alloc _) e0 key rest hR
  replace hn := Lib.hid hn
  replace hR := Lib.hid hR
  go_enter Tryd.func12, Tryd.ntmps12
  go_wp2_with fail
  refine pp.mono ?_
  clear pp
  rintro _ w1 ⟨v, m, A1, m1, c1, rfl, hown, hrs, hrl, hm1, hmc, hmn, b1⟩
  replace kb := kb.below b1 kb.lt
  have hown1 : w1.ownsRow w.heap.size 5 1 v m (bvs key) := own_le hown (by simp)
  replace b1 := b0.trans (b1.mono b0.size)
  clear hown b0
  obtain ⟨Av, cv, rfl⟩ := own_slice hown1
  have hkey := (Bs.of_own hown1)
  obtain ⟨hml, hkb⟩ := hkey
  by_cases he0 : e0 = 0
  · subst he0
    rw [if_neg (by simp)] at hG
    have hsz : (ByteArray.mk key.toArray).size = m := by rw [hml]; rfl
    have kst := run_str (P := Tryd.prog) hkb 28 9 5 Tryd.underlying28 Tryd.underlying5 Tryd.underlying9 m cv hml.symm
    have kb2 := kb.store 0 (.string ⟨key.toArray⟩)
    have c0 := kb.cell 0
    have f0 := kb.frozen 0
    have b2 := b1.setCell (p := ⟨w.heap.size, 0, none⟩) (Nat.le_refl _) (.string ⟨key.toArray⟩)
    have hrs2 : Bs (w1.setCell ⟨w.heap.size, 0, none⟩ (.string ⟨key.toArray⟩)) A1 rest := hrs _ (hb.below b2)
    replace kb2 : Blk (w1.setCell ⟨w.heap.size, 0, none⟩ (.string ⟨key.toArray⟩)) w.heap.size 26 #[.string ⟨key.toArray⟩, .int .u32 0, .int .u64 0, .int .u64 0, .int .u8 0, .string ⟨#[]⟩] := kb2
    have c2 : (w1.setCell ⟨w.heap.size, 0, none⟩ (.string ⟨key.toArray⟩)).cell? ⟨w.heap.size, 0, none⟩ = some (.string ⟨key.toArray⟩) := kb2.cell 0
    by_cases hbad : key.length < 1 ∨ 32 < key.length
    · rw [if_pos hbad] at hG
      injection hG with hG1 hG2
      injection hG2 with hG2 hG3
      injection hG3 with hG3 hG4
      injection hG4 with hG4 hG5
      subst hG1
      subst hG2
      subst hG3
      subst hG4
      subst hG5
      rw [← hml] at hbad
      replace hml := Lib.hid hml
      replace kb := Lib.hid kb
      by_cases hm0 : m < 1
      · obtain rfl : m = 0 := by omega
        go_wp2_with (refine wpList_store_blk rfl 26 (.tmp 2) (.tmp 31) rfl w.heap.size rfl kb2 #[.string ⟨#[]⟩, .int .u32 0, .int .u64 0, .int .u64 0, .int .u8 0, .string ⟨#[]⟩] rfl fact_size rfl (cells6 rfl rfl rfl rfl rfl rfl) ?_)
        exact bodyPost_ret (results_blk2 rfl _ w.heap.size rfl (kb2.setRow _) Tryd.underlying26 rfl fact_size) rfl ⟨rfl, below_setRow' b2 (Nat.le_refl _) _⟩
      · have d1 : decide ((m : Int) < 1) = false := decide_eq_false (by omega)
        have d2 : decide ((32 : Int) < (m : Int)) = true := decide_eq_true (by omega)
        go_wp2_with (refine wpList_store_blk rfl 26 (.tmp 2) (.tmp 31) rfl w.heap.size rfl kb2 #[.string ⟨#[]⟩, .int .u32 0, .int .u64 0, .int .u64 0, .int .u8 0, .string ⟨#[]⟩] rfl fact_size rfl (cells6 rfl rfl rfl rfl rfl rfl) ?_)
        exact bodyPost_ret (results_blk2 rfl _ w.heap.size rfl (kb2.setRow _) Tryd.underlying26 rfl fact_size) rfl ⟨rfl, below_setRow' b2 (Nat.le_refl _) _⟩
    · rw [if_neg hbad] at hG
      rw [← hml] at hbad
      have d1 : decide ((m : Int) < 1) = false := decide_eq_false (by omega)
      have d2 : decide ((32 : Int) < (m : Int)) = false := decide_eq_false (by omega)
      replace hml := Lib.hid hml
      replace kb := Lib.hid kb
      rw [hrl] at hG
      replace hG := Lib.hid hG
      go_wp2_with fail
      clear c0 f0 kst
      have hsz2 : (w1.setCell ⟨w.heap.size, 0, none⟩ (.string ⟨key.toArray⟩)).heap.size = w1.heap.size := by simp [World.setCell]
      generalize w1.setCell ⟨w.heap.size, 0, none⟩ (.string ⟨key.toArray⟩) = w2 at *
      have kb3 := kb2.alloc (.cells #[.int .u8 0, .int .u8 0, .int .u8 0, .int .u8 0, .int .u8 0, .int .u8 0, .int .u8 0, .int .u8 0, .int .u8 0, .int .u8 0, .int .u8 0, .int .u8 0, .int .u8 0] 43)
      have kt3 := Blk.new w2 43 #[.int .u8 0, .int .u8 0, .int .u8 0, .int .u8 0, .int .u8 0, .int .u8 0, .int .u8 0, .int .u8 0, .int .u8 0, .int .u8 0, .int .u8 0, .int .u8 0, .int .u8 0]
      have b3 := b2.alloc b2.size (.cells #[.int .u8 0, .int .u8 0, .int .u8 0, .int .u8 0, .int .u8 0, .int .u8 0, .int .u8 0, .int .u8 0, .int .u8 0, .int .u8 0, .int .u8 0, .int .u8 0, .int .u8 0] 43)
      have hrs3 := hrs2.alloc (.cells #[.int .u8 0, .int .u8 0, .int .u8 0, .int .u8 0, .int .u8 0, .int .u8 0, .int .u8 0, .int .u8 0, .int .u8 0, .int .u8 0, .int .u8 0, .int .u8 0, .int .u8 0] 43)
      have hTg := kb2.lt
      rw [hsz2] at kt3 hTg
      obtain ⟨T, hT⟩ : ∃ T, w1.heap.size = T := ⟨_, rfl⟩
      rw [hT] at kt3 hTg ⊢
      clear hsz2
      replace hT := Lib.hid hT
      clear kb2 b2 hrs2 c2
      generalize w2.alloc (.cells #[.int .u8 0, .int .u8 0, .int .u8 0, .int .u8 0, .int .u8 0, .int .u8 0, .int .u8 0, .int .u8 0, .int .u8 0, .int .u8 0, .int .u8 0, .int .u8 0, .int .u8 0] 43) = w3 at *
      refine (compare_int w3 (m1 : Int) 13).mono ?_
      rintro _ _ ⟨rfl, rfl⟩
      by_cases hm13 : m1 < 13
      · rw [cmpI_lt (show (m1 : Int) < 13 by omega)]
        have hG' := hG.out
        rw [if_pos hm13] at hG'
        injection hG' with hG1 hG2
        injection hG2 with hG2 hG3
        injection hG3 with hG3 hG4
        injection hG4 with hG4 hG5
        subst hG1
        subst hG2
        subst hG3
        subst hG4
        subst hG5
        go_wp2_with (refine wpList_store_blk rfl 26 (.tmp 2) (.tmp 38) rfl w.heap.size rfl kb3 #[.string ⟨#[]⟩, .int .u32 0, .int .u64 0, .int .u64 0, .int .u8 0, .string ⟨#[]⟩] rfl fact_size rfl (cells6 rfl rfl rfl rfl rfl rfl) ?_)
        exact bodyPost_ret (results_blk2 rfl _ w.heap.size rfl (kb3.setRow _) Tryd.underlying26 rfl fact_size) rfl ⟨rfl, below_setRow' b3 (Nat.le_refl _) _⟩
      · have hG' := hG.out
        rw [if_neg hm13] at hG'
        by_cases hm14 : 13 < m1
        · rw [cmpI_gt (show (13 : Int) < (m1 : Int) by omega)]
          rw [if_pos hm14] at hG'
          injection hG' with hG1 hG2
          injection hG2 with hG2 hG3
          injection hG3 with hG3 hG4
          injection hG4 with hG4 hG5
          subst hG1
          subst hG2
          subst hG3
          subst hG4
          subst hG5
          go_wp2_with (refine wpList_store_blk rfl 26 (.tmp 2) (.tmp 42) rfl w.heap.size rfl kb3 #[.string ⟨#[]⟩, .int .u32 0, .int .u64 0, .int .u64 0, .int .u8 0, .string ⟨#[]⟩] rfl fact_size rfl (cells6 rfl rfl rfl rfl rfl rfl) ?_)
          exact bodyPost_ret (results_blk2 rfl _ w.heap.size rfl (kb3.setRow _) Tryd.underlying26 rfl fact_size) rfl ⟨rfl, below_setRow' b3 (Nat.le_refl _) _⟩
        · obtain rfl : m1 = 13 := by omega
          rw [show cmpI ((13 : Nat) : Int) 13 = 0 from cmpI_eq _]
          rw [if_neg hm14] at hG'
          clear hG hm14 hm13
          replace hG' := Lib.hid hG'
          obtain ⟨b, off, rfl, hbl, hcs⟩ := Rd.at_ hrs3 (k := 0) (by rw [hrl]; omega)
          have harr : ∀ W : World, (Instr.arrayAt 43 (.slice (some ⟨b, off, none⟩) 13 c1)).run Tryd.prog W = .ok (.pointer (some ⟨b, off, none⟩)) W := fun _ => by kernel_rfl
          have hra : w3.rangeAt b off (bvs rest) := hcs
          have hsz13 : (Tryd.prog.info? 43).map (·.size) = some (bvs rest).length := by rw [bvs_length, hrl]; exact tail_size
          have hsz13' : (Tryd.prog.info? 43).map (·.size) = some (bvs rest).toArray.size := by rw [List.size_toArray]; exact hsz13
          have hold : (13 : Nat) = (bvs rest).toArray.size := by rw [List.size_toArray, bvs_length, hrl]
          replace hsz13 := Lib.hid hsz13
          replace hsz13' := Lib.hid hsz13'
          replace hold := Lib.hid hold
          go_wp2_with (first
            | (refine wpList_load_mid rfl 43 (.tmp 44) rfl b off rfl (bvs rest) _ hra Tryd.underlying43 rfl hsz13.out ?_)
            | (refine wpList_store_blk rfl 43 (.tmp 6) (.tmp 45) rfl T rfl kt3 (bvs rest).toArray rfl hsz13'.out hold.out (bvs_all _) ?_))
          have kt4 := kt3.setRow (bvs rest).toArray
          have kb4 := kb3.setRow_far (g' := T) (by omega) (bvs rest).toArray
          have b4 := below_setRow' (g := T) b3 (by omega) (bvs rest).toArray
          clear hra hrs3 hcs harr kt3 kb3 b3
          generalize w3.setRow T (bvs rest).toArray = w4 at *
          obtain ⟨r12, hr12⟩ : ∃ r, (rest.getD 12 0).toNat = r := ⟨_, rfl⟩
          have hrd : ∀ W, Blk W T 43 (bvs rest).toArray → W.rangeAt T 0 (bvs rest) ∧ W.cell? ⟨T, 12, none⟩ = some (.int .u8 (r12 : Int)) := fun W h => by
            refine ⟨fun j u hu => ?_, ?_⟩
            · rw [h.cell, Nat.zero_add]
              simpa using hu
            · rw [h.cell, List.getElem?_toArray, bvs_get (by omega), ← hr12]
              simp [bv, List.getD, show 12 < rest.length by omega]
          have hs4 := hrd _ kt4
          have hr12l : r12 < 256 := by rw [← hr12]; exact (rest.getD 12 0).toNat_lt
          obtain ⟨nv, hnv⟩ : ∃ x, num ((rest.drop 0).take 4) = x := ⟨_, rfl⟩
          obtain ⟨ns, hns⟩ : ∃ x, num ((rest.drop 4).take 8) = x := ⟨_, rfl⟩
          have hnvl : nv < 4294967296 := by
            rw [← hnv]
            have := num_lt ((rest.drop 0).take 4)
            rw [List.length_take, List.length_drop, hrl] at this
            exact this
          have p1 := fun W => fallen_any W rest hrl 0 4 0 4 rfl rfl (by omega) (by omega) (by omega)
          have p2 := fun W => fallen_any W rest hrl 4 8 4 8 rfl rfl (by omega) (by omega) (by omega)
          rw [hnv] at p1
          rw [hns] at p2
          have hu32 : IntKind.u32.wrap (nv : Int) = (nv : Int) := by rw [IntKind.wrap_u32]; omega
          rw [hr12, hns, show rest.take 4 = (rest.drop 0).take 4 by rw [List.drop_zero], hnv] at hG'
          replace hr12 := Lib.hid hr12
          replace hrd := Lib.hid hrd
          replace p1 := Lib.hid p1
          replace p2 := Lib.hid p2
          replace hrl := Lib.hid hrl
          replace hnv := Lib.hid hnv
          replace hns := Lib.hid hns
          replace hs4 := Lib.hid hs4
          have hu := Tryd.underlying43
          have hi := hsz13.out
          have hl13 : (bvs rest).length = 13 := by rw [bvs_length, hrl.out]
          have hone := bvs_one rest
          have hfol : Tryd.prog.follows .mixedOrders = true := by kernel_rfl
          have hTn : T ≠ w.heap.size := by omega
          have hS0 : w4.grownBy w4.drew (some w.heap.size) := ⟨rfl, rfl, rfl, Nat.le_refl _, fun _ _ _ => rfl⟩
          have hld := fun (W : World) (h : w4.grownBy W (some w.heap.size)) => (hrd.out W (kt4.grown h (by simpa using hTn))).1
          have hl12 := fun (W : World) (h : w4.grownBy W (some w.heap.size)) => (hrd.out W (kt4.grown h (by simpa using hTn))).2
          replace hld := Lib.hid hld
          replace hl12 := Lib.hid hl12
          refine wp_region_held (S := fun W => w4.grownBy W (some w.heap.size)) hfol ?_
          refine wpAnyH_take (i := 0) (v := .agg (bvs rest).toArray) rfl (by kernel_rfl) (by kernel_rfl) (by kernel_rfl) (fun _ _ _ h => h) (yieldsIf_load_mid (by rfl) 43 (.tmp 6) rfl T 0 rfl (bvs rest) _ hld.out hu rfl hi) hS0 ?_
          dsimp only [Act.put]
          try simp only [List.setIfInBounds_toArray, List.set_cons_zero, List.set_cons_succ]
          refine wpAnyH_take (i := 3) (v := .agg (bvs rest).toArray) rfl (by kernel_rfl) (by kernel_rfl) (by kernel_rfl) (fun _ _ _ h => h) (yieldsIf_load_mid (by rfl) 43 (.tmp 6) rfl T 0 rfl (bvs rest) _ hld.out hu rfl hi) hS0 ?_
          dsimp only [Act.put]
          try simp only [List.setIfInBounds_toArray, List.set_cons_zero, List.set_cons_succ]
          refine wpAnyH_take (i := 5) (v := .pointer (some ⟨T, 12, none⟩)) rfl (by kernel_rfl) (by kernel_rfl) (by kernel_rfl) (fun _ _ _ h => h) (.inl ⟨by rfl, fun W hW => by go_simp⟩) hS0 ?_
          dsimp only [Act.put]
          try simp only [List.setIfInBounds_toArray, List.set_cons_zero, List.set_cons_succ]
          refine wpAnyH_take (i := 6) (v := .int .u8 (r12 : Int)) rfl (by kernel_rfl) (by kernel_rfl) (by kernel_rfl) (fun _ _ _ h => h) (.inl ⟨by rfl, fun W hW => by have := hl12.out W hW; go_simp⟩) hS0 ?_
          dsimp only [Act.put]
          try simp only [List.setIfInBounds_toArray, List.set_cons_zero, List.set_cons_succ]
          refine wpAnyH_ready (rs := [1]) (by kernel_rfl) (by simp) (AllReadyH.cons rfl (fun K hK => ?_) AllReadyH.nil)
          · go_simp
            go_at_call 26
            refine (p1.out _).mono ?_
            rintro _ w5 ⟨rfl, b5⟩
            have q5 : Below w4.heap.size w4 w5 := (Below.refl w4.heap.size w4).drew.trans b5
            have g5 : w4.grownBy w5 (some w.heap.size) := ⟨q5.os, q5.tape, q5.output, q5.size, fun k hk _ => q5.block k hk⟩
            refine hK.out _ _ g5 (fun _ => ?_)
            clear hK K
            try dsimp only [Act.put]
            try simp only [List.setIfInBounds_toArray, List.set_cons_zero, List.set_cons_succ]
            refine wpAnyH_take (i := 2) (v := .int .u32 (nv : Int)) rfl (by kernel_rfl) (by kernel_rfl) (by kernel_rfl) (fun _ _ _ h => h) (.inl ⟨by rfl, fun W hW => by go_simp⟩) g5 ?_
            try dsimp only [Act.put]
            try simp only [List.setIfInBounds_toArray, List.set_cons_zero, List.set_cons_succ]
            refine wpAnyH_take (i := 7) (v := .pointer (some ⟨w.heap.size, 1, none⟩)) rfl (by kernel_rfl) (by kernel_rfl) (by kernel_rfl) (fun _ _ _ h => h) (.inl ⟨by rfl, fun W hW => by go_simp⟩) g5 ?_
            try dsimp only [Act.put]
            try simp only [List.setIfInBounds_toArray, List.set_cons_zero, List.set_cons_succ]
            refine wpAnyH_ready (rs := [4]) (by kernel_rfl) (by simp) (AllReadyH.cons rfl (fun K hK => ?_) AllReadyH.nil)
            go_simp
            go_at_call 26
            refine (p2.out _).mono ?_
            rintro _ w6 ⟨rfl, b6⟩
            have q6 : Below w4.heap.size w4 w6 := q5.trans (b6.mono q5.size)
            have g6 : w4.grownBy w6 (some w.heap.size) := ⟨q6.os, q6.tape, q6.output, q6.size, fun k hk _ => q6.block k hk⟩
            refine hK.out _ _ g6 (fun _ => ?_)
            clear hK K
            try dsimp only [Act.put]
            try simp only [List.setIfInBounds_toArray, List.set_cons_zero, List.set_cons_succ]
            have kz := kb4.below q6 kb4.lt
            have kc := kz.cell
            have kf := kz.frozen
            have b5' := b4.trans (q6.mono b4.size)
            refine wpAnyH_ready (rs := [8]) (by kernel_rfl) (by simp) (AllReadyH.cons rfl (fun K hK => ?_) AllReadyH.nil)
            have gs1 := only_store g6 (p := ⟨w.heap.size, 1, none⟩) rfl (.int .u32 (nv : Int))
            go_simp
            refine hK.out _ _ gs1 (fun _ => ?_)
            clear hK K
            try dsimp only [Act.put]
            try simp only [List.setIfInBounds_toArray, List.set_cons_zero, List.set_cons_succ]
            refine wpAnyH_take (i := 9) (v := .pointer (some ⟨w.heap.size, 2, none⟩)) rfl (by kernel_rfl) (by kernel_rfl) (by kernel_rfl) (fun _ _ _ h => h) (.inl ⟨by rfl, fun W hW => by go_simp⟩) gs1 ?_
            try dsimp only [Act.put]
            try simp only [List.setIfInBounds_toArray, List.set_cons_zero, List.set_cons_succ]
            refine wpAnyH_ready (rs := [10]) (by kernel_rfl) (by simp) (AllReadyH.cons rfl (fun K hK => ?_) AllReadyH.nil)
            have gs2 := only_store gs1 (p := ⟨w.heap.size, 2, none⟩) rfl (.int .u64 (ns : Int))
            go_simp
            refine hK.out _ _ gs2 (fun _ => ?_)
            clear hK K
            try dsimp only [Act.put]
            try simp only [List.setIfInBounds_toArray, List.set_cons_zero, List.set_cons_succ]
            refine wpAnyH_take (i := 11) (v := .pointer (some ⟨w.heap.size, 4, none⟩)) rfl (by kernel_rfl) (by kernel_rfl) (by kernel_rfl) (fun _ _ _ h => h) (.inl ⟨by rfl, fun W hW => by go_simp⟩) gs2 ?_
            try dsimp only [Act.put]
            try simp only [List.setIfInBounds_toArray, List.set_cons_zero, List.set_cons_succ]
            refine wpAnyH_ready (rs := [12]) (by kernel_rfl) (by simp) (AllReadyH.cons rfl (fun K hK => ?_) AllReadyH.nil)
            have gs3 := only_store gs2 (p := ⟨w.heap.size, 4, none⟩) rfl (.int .u8 (r12 : Int))
            go_simp
            refine hK.out _ _ gs3 (fun _ => ?_)
            clear hK K
            try dsimp only [Act.put]
            try simp only [List.setIfInBounds_toArray, List.set_cons_zero, List.set_cons_succ]
            refine wpAnyH_done (by kernel_rfl) ?_ _
            have kw := ((kz.store 1 (.int .u32 (nv : Int))).store 2 (.int .u64 (ns : Int))).store 4 (.int .u8 (r12 : Int))
            have bw := ((b5'.setCell (p := ⟨w.heap.size, 1, none⟩) (Nat.le_refl _) (.int .u32 (nv : Int))).setCell (p := ⟨w.heap.size, 2, none⟩) (Nat.le_refl _) (.int .u64 (ns : Int))).setCell (p := ⟨w.heap.size, 4, none⟩) (Nat.le_refl _) (.int .u8 (r12 : Int))
            clear kc kf gs1 gs2 gs3 b5' kz
            generalize ((w6.setCell ⟨w.heap.size, 1, none⟩ (.int .u32 (nv : Int))).setCell ⟨w.heap.size, 2, none⟩ (.int .u64 (ns : Int))).setCell ⟨w.heap.size, 4, none⟩ (.int .u8 (r12 : Int)) = w7 at *
            replace kw : Blk w7 w.heap.size 26 #[.string ⟨key.toArray⟩, .int .u32 (nv : Int), .int .u64 (ns : Int), .int .u64 0, .int .u8 (r12 : Int), .string ⟨#[]⟩] := kw
            have pm := may_any w7 ⟨key.toArray⟩ ⟨#[]⟩ (nv : Int) ns 0 r12
            have hmb : mayB ⟨key.toArray⟩ ns r12 = decide (0 < ns ∧ r12 ≤ 1) := by
              unfold mayB
              rw [hsz, decide_eq_true (show 1 ≤ m by omega), decide_eq_true (show m ≤ 32 by omega)]
              simp
            rw [hmb] at pm
            clear hmb hsz hu hi hl13 hone q5 g5 q6 g6 b5 b6
            replace pm := Lib.hid pm
            go_wp2_with (refine wpList_load_blk rfl 26 (.tmp 2) rfl w.heap.size rfl kw Tryd.underlying26 rfl fact_size ?_)
            refine pm.out.mono ?_
            clear pm
            rintro _ w8 ⟨rfl, b8⟩
            have kw8 := kw.below b8 kw.lt
            have bw8 := bw.trans (b8.mono bw.size)
            clear kw bw b8
            by_cases hok : 0 < ns ∧ r12 ≤ 1
            · have hG2 := hG'.out
              rw [if_pos hok] at hG2
              injection hG2 with hG1 hG2
              injection hG2 with hG2 hG3
              injection hG3 with hG3 hG4
              injection hG4 with hG4 hG5
              subst hG1
              subst hG2
              subst hG3
              subst hG4
              subst hG5
              rw [decide_eq_true hok]
              go_wp2_with (first
                | (refine wpList_load_blk rfl 26 (.tmp 2) rfl w.heap.size rfl kw8 Tryd.underlying26 rfl fact_size ?_)
                | (refine wpList_store_same rfl 26 (.tmp 2) (.tmp 60) rfl w.heap.size rfl kw8 rfl fact_size (cells6 rfl rfl rfl rfl rfl rfl) ?_))
              exact bodyPost_ret (results_blk2 rfl _ w.heap.size rfl kw8 Tryd.underlying26 rfl fact_size) rfl ⟨rfl, bw8⟩
            · have hG2 := hG'.out
              rw [if_neg hok] at hG2
              injection hG2 with hG1 hG2
              injection hG2 with hG2 hG3
              injection hG3 with hG3 hG4
              injection hG4 with hG4 hG5
              subst hG1
              subst hG2
              subst hG3
              subst hG4
              subst hG5
              rw [decide_eq_false hok]
              go_wp2_with (refine wpList_store_blk rfl 26 (.tmp 2) (.tmp 59) rfl w.heap.size rfl kw8 #[.string ⟨#[]⟩, .int .u32 0, .int .u64 0, .int .u64 0, .int .u8 0, .string ⟨#[]⟩] rfl fact_size rfl (cells6 rfl rfl rfl rfl rfl rfl) ?_)
              exact bodyPost_ret (results_blk2 rfl _ w.heap.size rfl (kw8.setRow _) Tryd.underlying26 rfl fact_size) rfl ⟨rfl, below_setRow' bw8 (Nat.le_refl _) _⟩
  · rw [if_pos he0] at hG
    injection hG with hG1 hG2
    injection hG2 with hG2 hG3
    injection hG3 with hG3 hG4
    injection hG4 with hG4 hG5
    subst hG1
    subst hG2
    subst hG3
    subst hG4
    subst hG5
    have hne : ((e0 : Int) != 0) = true := by simp; omega
    go_wp2_with (first
      | (refine wpList_load_blk rfl 26 (.tmp 2) rfl w.heap.size rfl kb Tryd.underlying26 rfl fact_size ?_)
      | (refine wpList_store_same rfl 26 (.tmp 2) (.tmp 16) rfl w.heap.size rfl kb rfl fact_size (cells6 rfl rfl rfl rfl rfl rfl) ?_))
    exact bodyPost_ret (results_blk2 rfl _ w.heap.size rfl kb Tryd.underlying26 rfl fact_size) rfl ⟨rfl, b1⟩
end Go.Proofs.YtelppijpmjoblaaDoor
