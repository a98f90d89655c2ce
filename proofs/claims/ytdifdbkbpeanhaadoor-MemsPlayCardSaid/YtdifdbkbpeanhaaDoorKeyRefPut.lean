/- Walks of the document's key, turned, Seek, Put. -/
import Derived.Test.YtdifdbkbpeanhaaDoorKeyOwn
set_option linter.unusedSimpArgs false
set_option linter.unusedVariables false
namespace Herb
open Go Go.RowKit
theorem own_under {w w' : World} {base n size : Nat} {e : TypeId} {v : Value} {xs : List Value} (h : w.ownsRow base e size v n xs) (hb : Below w.heap.size w w') : w'.ownsRow base e size v n xs :=
  h.kept (row := none) ⟨hb.os, hb.tape, hb.output, hb.size, fun k hk _ => hb.block k hk⟩ (by cases v.ownBlock <;> simp)
end Herb
namespace Go.Proofs.YtdifdbkbpeanhaaDoor
open Go Go.RowKit Herb

set_option maxRecDepth 100000 in
set_option maxHeartbeats 1600000 in
theorem refKey_any (w : World) (s : ByteArray) (n : Nat) (hn : s.size = n) (hl : n ≤ 100000) :
    Calls Tryd.prog 55 #[.string s] w fun e w' => ∃ A k c, e = .returned (.slice A k c) ∧ (esc s.data.toList).length = k ∧ w'.ownsRow w.heap.size 5 1 (.slice A k c) k (bvs (esc s.data.toList)) ∧ Below w.heap.size w w' := by
  have hn' := Lib.hid hn
  go_enter Tryd.func55, Tryd.ntmps55
  have own0 : w.ownsRow w.heap.size 5 1 (.slice none 0 0) 0 (bvs (escB (s.data.toList.take 0))) := World.ownsRow_nil _ _ _ _
  go_wp2
  go_loopw [3, 4] (fun v i wr => ∃ k m : Nat, k ≤ n ∧ i = .int .i64 (k : Int) ∧ m ≤ 2 * k ∧ wr.ownsRow w.heap.size 5 1 v m (bvs (escB (s.data.toList.take k))) ∧ Below w.heap.size w wr) (fun _ i _ => n - (intOf i).toNat)
  case atStart => exact ⟨0, 0, by omega, rfl, by omega, own0, Below.refl _ _⟩
  case round =>
    clear own0
    obtain ⟨k, m, hk, rfl, hm, hown, hbel⟩ := hrel
    by_cases hlt : k < n
    · have hlt2 : k < s.size := by omega
      obtain ⟨c, hc⟩ : ∃ c, s[k] = c := ⟨_, rfl⟩
      have htake : s.data.toList.take (k + 1) = s.data.toList.take k ++ [c] := by
        rw [List.take_succ_eq_append_getElem (by simpa using hlt2), ← hc]
        rfl
      obtain ⟨y, hy⟩ : ∃ y, c.toNat = y := ⟨_, rfl⟩
      have hy' := Lib.hid hy
      by_cases hz : c = 0
      · have hes : bvs (escB (s.data.toList.take (k + 1))) = bvs (escB (s.data.toList.take k)) ++ [.int .u8 0] ++ [.int .u8 1] := by
          rw [htake, escB_snoc, if_pos hz]
          simp [bvs, bv]
        obtain rfl : y = 0 := by rw [← hy, hz]; rfl
        replace hes := Lib.hid hes
        replace hz := Lib.hid hz
        replace htake := Lib.hid htake
        go_wp2_with (first
          | (at_builtin; refine wpList_app _ rfl (.tmp 11) (.tmp 15) rfl Tryd.underlying57 info_u8 rfl (by omega) (hown.alloc (.cells #[.int .u8 0] 5)) rfl _ 1 1 (Rd.one wr 5 (.int .u8 0)) rfl (oneCell_one rfl) (by unfold maxLen; omega) (by omega) (by have := hbel.size; simp; omega) ?_; intro v2 w2 hown2 hgrow2 hlie2; have b2 : Below w.heap.size w w2 := below_app (hbel.alloc hbel.size _) (hown.alloc _) (Nat.le_refl _) (by have := hbel.size; simp; omega) hgrow2)
          | (at_builtin; refine wpList_app _ rfl (.tmp 21) (.tmp 22) rfl Tryd.underlying57 info_u8 rfl (by omega) (hown2.alloc (.cells #[.int .u8 1] 5)) rfl _ 1 1 (Rd.one w2 5 (.int .u8 1)) rfl (oneCell_one rfl) (by unfold maxLen; omega) (by omega) (by have := b2.size; simp; omega) ?_; intro v3 w3 hown3 hgrow3 hlie3; have b3 : Below w.heap.size w w3 := below_app (b2.alloc b2.size _) (hown2.alloc _) (Nat.le_refl _) (by have := b2.size; simp; omega) hgrow3))
        rw [← hes.out] at hown3
        go_roundw
        case rel => exact ⟨k + 1, m + 1 + 1, by omega, by go_num, by omega, hown3, b3⟩
        case measure => simp [intOf]; omega
      · have hes : bvs (escB (s.data.toList.take (k + 1))) = bvs (escB (s.data.toList.take k)) ++ [.int .u8 (y : Int)] := by
          rw [htake, escB_snoc, if_neg hz]
          simp [bvs, bv, hy]
        have hne : ((y : Int) == 0) = false := by
          have : y ≠ 0 := fun e => hz (UInt8.toNat_inj.1 (by rw [hy, e]; rfl))
          simp; omega
        replace hes := Lib.hid hes
        replace hz := Lib.hid hz
        replace htake := Lib.hid htake
        go_wp2_with (at_builtin; refine wpList_app _ rfl (.tmp 11) (.tmp 15) rfl Tryd.underlying57 info_u8 rfl (by omega) (hown.alloc (.cells #[.int .u8 (y : Int)] 5)) rfl _ 1 1 (Rd.one wr 5 (.int .u8 (y : Int))) rfl (oneCell_one rfl) (by unfold maxLen; omega) (by omega) (by have := hbel.size; simp; omega) ?_; intro v2 w2 hown2 hgrow2 hlie2; have b2 : Below w.heap.size w w2 := below_app (hbel.alloc hbel.size _) (hown.alloc _) (Nat.le_refl _) (by have := hbel.size; simp; omega) hgrow2)
        rw [← hes.out] at hown2
        go_roundw
        case rel => exact ⟨k + 1, m + 1, by omega, by go_num, by omega, hown2, b2⟩
        case measure => simp [intOf]; omega
    · obtain rfl : k = n := by omega
      have hes : bvs (escB (s.data.toList.take k)) ++ [.int .u8 0, .int .u8 0] = bvs (esc s.data.toList) := by
        rw [List.take_of_length_le (by simp; omega)]
        simp [esc, bvs, bv]
      have r2 : Rd (wr.alloc (.cells #[.int .u8 0, .int .u8 0] 5)) 1 (some ⟨wr.heap.size, 0, none⟩) 2 [.int .u8 0, .int .u8 0] := (Blk.new wr 5 _).rd rfl (fun j u hu => by simpa using hu)
      replace hes := Lib.hid hes
      go_wp2_with (at_builtin; refine wpList_app _ rfl (.tmp 24) (.tmp 25) rfl Tryd.underlying57 info_u8 rfl (by omega) (hown.alloc (.cells #[.int .u8 0, .int .u8 0] 5)) rfl _ 2 2 r2 rfl (by intro x hx; simp at hx; rw [hx]; rfl) (by unfold maxLen; omega) (by omega) (by have := hbel.size; simp; omega) ?_; intro v2 w2 hown2 hgrow2 hlie2; have b2 : Below w.heap.size w w2 := below_app (hbel.alloc hbel.size _) (hown.alloc _) (Nat.le_refl _) (by have := hbel.size; simp; omega) hgrow2)
      rw [hes.out] at hown2
      obtain ⟨A2, c2, rfl⟩ := own_slice hown2
      go_ret
      exact ⟨_, _, _, rfl, by have := hown2.1; rw [bvs_length] at this; omega, hown2, b2⟩

set_option maxRecDepth 100000 in
set_option maxHeartbeats 1600000 in
theorem turned_any (w : World) (n m : Nat) (hn : n < 18446744073709551616) (hm : m ≤ 8) (M : Int) (hM : M = (m : Int)) :
    Calls Tryd.prog 46 #[.int .u64 (n : Int), .int .i64 M] w fun e w' => ∃ A c, e = .returned (.slice A m c) ∧ w'.ownsRow w.heap.size 5 1 (.slice A m c) m (bvs (be n m)) ∧ Below w.heap.size w w' := by
  subst hM
  have own0 : w.ownsRow w.heap.size 5 1 (.slice none 0 0) 0 (bvs ((be n m).take 0)) := World.ownsRow_nil _ _ _ _
  go_enter Tryd.func46, Tryd.ntmps46
  go_wp2
  go_loopw [5, 6] (fun v i wr => ∃ k : Nat, (i = .int .i64 (-1) ∧ k = m ∨ ∃ p : Nat, i = .int .i64 (p : Int) ∧ k + p + 1 = m) ∧ wr.ownsRow w.heap.size 5 1 v k (bvs ((be n m).take k)) ∧ Below w.heap.size w wr) (fun _ i _ => (intOf i + 1).toNat)
  case atStart =>
    refine ⟨0, ?_, own0, Below.refl _ _⟩
    cases m with
    | zero => exact .inl ⟨by go_num, rfl⟩
    | succ m => exact .inr ⟨m, by go_num, by omega⟩
  case round =>
    clear own0
    obtain ⟨k, hkp, hown, hbel⟩ := hrel
    rcases hkp with ⟨rfl, rfl⟩ | ⟨p, rfl, hkp⟩
    · rw [List.take_of_length_le (by rw [be_length]; omega)] at hown
      obtain ⟨A, c, rfl⟩ := own_slice hown
      go_wp2
      go_ret
      exact ⟨_, _, rfl, hown, hbel⟩
    · obtain ⟨x, hx⟩ : ∃ x, tb n m k = x := ⟨_, rfl⟩
      have htk : bvs ((be n m).take k) ++ [Value.int .u8 (x.toNat : Int)] = bvs ((be n m).take (k + 1)) := by
        rw [bvs_snoc, List.take_succ_eq_append_getElem (by rw [be_length]; omega)]
        congr 2
        simp [be, hx]
      obtain ⟨y, hy⟩ : ∃ y : Nat, n / 2 ^ (8 * p) % 256 = y := ⟨_, rfl⟩
      have hxy : (x.toNat : Int) = 255 - (y : Int) := by
        rw [← hx]
        unfold tb
        rw [show m - 1 - k = p by omega, hy, UInt8.toNat_ofNat']
        omega
      have hy256 : y < 256 := by rw [← hy]; exact Nat.mod_lt _ (by omega)
      rw [hxy] at htk
      have hsh : (n : Int) / 2 ^ (8 * p) % 256 = (y : Int) := by
        rw [← hy]
        simp
      replace htk := Lib.hid htk
      replace hx := Lib.hid hx
      replace hy := Lib.hid hy
      replace hxy := Lib.hid hxy
      go_wp2_with (first | (at_builtin; refine wpList_app _ rfl (.tmp 13) (.tmp 20) rfl Tryd.underlying57 info_u8 rfl (by omega) (hown.alloc (.cells #[.int .u8 (255 - (y : Int))] 5)) rfl _ 1 1 (Rd.one wr 5 (.int .u8 (255 - (y : Int)))) rfl (oneCell_one rfl) (by unfold maxLen; omega) (by omega) (by have := hbel.size; simp; omega) ?_; intro v2 w2 hown2 hgrow2 hlie2; have b2 : Below w.heap.size w w2 := below_app (hbel.alloc hbel.size _) (hown.alloc _) (Nat.le_refl _) (by have := hbel.size; simp; omega) hgrow2) | fail)
      rw [htk.out] at hown2
      go_roundw
      case rel =>
        refine ⟨k + 1, ?_, hown2, b2⟩
        cases p with
        | zero => exact .inl ⟨by go_num, by omega⟩
        | succ p => exact .inr ⟨p, by go_num, by omega⟩
      case measure => simp [intOf]

set_option maxRecDepth 100000 in
set_option maxHeartbeats 1600000 in
theorem refSeek_any (w : World) (k : ByteArray) (va : Nat) (h1 : va < 4294967296) (hk : k.size ≤ 100000) :
    Calls Tryd.prog 45 #[.string k, .int .u32 (va : Int)] w fun e w' => ∃ A m c, e = .returned (.slice A m c) ∧ (seekL k va).length = m ∧ w'.ownsRow w.heap.size 5 1 (.slice A m c) m (bvs (seekL k va)) ∧ Below w.heap.size w w' := by
  have hE66 : (esc k.data.toList).length ≤ 200002 := by
    have := esc_length k.data.toList
    have hk : k.data.toList.length = k.size := rfl
    omega
  have pk := refKey_any w k k.size rfl (by omega)
  have pt := fun W => turned_any W va 4 (by omega) (by omega) 4 rfl
  have one1 := bvs_one (be va 4)
  replace pk := Lib.hid pk
  replace pt := Lib.hid pt
  replace one1 := Lib.hid one1
  go_enter Tryd.func45, Tryd.ntmps45
  go_wp2_with fail
  refine pk.out.mono ?_
  clear pk
  rintro _ w1 ⟨A1, E, c1, rfl, hE, hown1, b1⟩
  rw [hE] at hE66
  replace hE := Lib.hid hE
  go_wp2_with fail
  refine (pt.out w1).mono ?_
  clear pt
  rintro _ w2 ⟨A2, c2, rfl, hown2, b2⟩
  have h1 : w2.ownsRow w.heap.size 5 1 (.slice A1 E c1) E (bvs (esc k.data.toList)) := hown1.kept (row := none) ⟨b2.os, b2.tape, b2.output, b2.size, fun k hk _ => b2.block k hk⟩ (by cases (Value.slice A1 E c1).ownBlock <;> simp)
  have r2 := Rd.of_own hown2
  have b12 := b1.trans (b2.mono b1.size)
  clear hown1 hown2 b1 b2
  go_wp2_with (first | (at_builtin; refine wpList_app w2 rfl (.tmp 6) (.tmp 9) rfl Tryd.underlying57 info_u8 rfl (by omega) h1 rfl A2 4 c2 r2 rfl one1.out (by unfold maxLen; omega) (by omega) b12.size ?_; intro v3 w3 hown3 hgrow3 _) | fail)
  rw [← bvs_append] at hown3
  obtain ⟨A3, c3, rfl⟩ := own_slice hown3
  go_ret
  exact ⟨A3, E + 4, c3, rfl, by unfold seekL; rw [List.length_append, be_length, hE.out], hown3, below_app b12 h1 (Nat.le_refl _) b12.size hgrow3⟩

set_option maxRecDepth 100000 in
set_option maxHeartbeats 3200000 in
theorem refPut_yes (w : World) (k v : ByteArray) (va se li ki : Nat) (h1 : va < 4294967296) (h2 : se < 18446744073709551616) (h3 : ki < 256) (hm : mayB k se ki = true) :
    Calls Tryd.prog 27 #[.agg #[.string k, .int .u32 (va : Int), .int .u64 (se : Int), .int .u64 (li : Int), .int .u8 (ki : Int), .string v]] w
      fun e w' => ∃ A n c, e = .returned (.tuple #[.slice A n c, .int .i64 0]) ∧ (putL k va se ki).length = n ∧ Bs w' A (putL k va se ki) ∧ Below w.heap.size w w' := by
  have hk32 : k.size ≤ 32 := by unfold mayB at hm; simp at hm; omega
  have pm := refMay_any (w.alloc (.cells #[.string k, .int .u32 (va : Int), .int .u64 (se : Int), .int .u64 (li : Int), .int .u8 (ki : Int), .string v] 27)) k v va se li ki
  rw [hm] at pm
  replace hm := Lib.hid hm
  have kb := Blk.new w 27 #[.string k, .int .u32 (va : Int), .int .u64 (se : Int), .int .u64 (li : Int), .int .u8 (ki : Int), .string v]
  have hb := (Below.refl w.heap.size w).alloc (Nat.le_refl _) (.cells #[.string k, .int .u32 (va : Int), .int .u64 (se : Int), .int .u64 (li : Int), .int .u8 (ki : Int), .string v] 27)
  have hS : (seekL k va).length ≤ 70 := by
    unfold seekL
    have := esc_length k.data.toList
    have hk : k.data.toList.length = k.size := rfl
    rw [List.length_append, be_length]
    omega
  have hki : (ki : Int) = ((UInt8.ofNat ki).toNat : Int) := by rw [UInt8.toNat_ofNat', Nat.mod_eq_of_lt h3]
  have hfin : bvs (seekL k va) ++ bvs (be se 8) ++ [Value.int .u8 (ki : Int)] = bvs (putL k va se ki) := by
    rw [hki, ← bvs_append, bvs_snoc]
    unfold putL seekL tailL
    simp only [List.append_assoc]
  have one1 := bvs_one (be se 8)
  have ps := fun W => refSeek_any W k va h1 (by omega)
  have pt := fun W => turned_any W se 8 h2 (by omega) 8 rfl
  replace ps := Lib.hid ps
  replace pt := Lib.hid pt
  replace one1 := Lib.hid one1
  replace hfin := Lib.hid hfin
  clear hki
  go_enter Tryd.func27, Tryd.ntmps27
  go_wp2_with fail
  refine pm.mono ?_
  clear pm
  rintro _ w3 ⟨rfl, b1⟩
  replace kb := kb.below b1 kb.lt
  replace b3 := hb.trans (b1.mono hb.size)
  clear hb b1
  have c3 := kb.cell
  go_wp2_with fail
  go_region_law (first
    | (refine step_app _ (by rfl) (.tmp 12) (.tmp 15) (by rfl) Tryd.underlying57 info_u8 (by rfl) (by omega) hown5 (by rfl) A5 8 c5 rd5 (by rfl) one1.out (by unfold maxLen; omega) (by omega) b5.size ?_; intro v6 w6 hown6 hgrow6 _; have b6 : Below w3.heap.size w3 w6 := below_app b5 hown5 (Nat.le_refl _) b5.size hgrow6; have kb6 := kb.below b6 kb.lt)
    | (go_simp; go_at_call 45; refine (ps.out _).mono ?_; rintro _ w4 ⟨A4, n4, q4, rfl, hn4, hown4, b4⟩; replace b4 : Below w3.heap.size w3 w4 := (Below.refl w3.heap.size w3).drew.trans b4; have c4 := (kb.below b4 kb.lt).cell)
    | (go_simp; go_at_call 46; refine (pt.out _).mono ?_; rintro _ w5 ⟨A5, c5, rfl, rd5, b5⟩; have hown5 := own_under hown4 b5; replace rd5 := Rd.of_own rd5; replace b5 := b4.trans (b5.mono b4.size); have c6 := (kb.below b5 kb.lt).cell))
  all_goals
    have c7 := kb6.cell
    have hs3 := b3.size
    have hown7 := hown6.alloc (.cells #[.int .u8 (ki : Int)] 5)
    clear hown6 hown5 hown4 hgrow6 c3 c4 c6 kb6 ps pt rd5
    go_wp2_with (first | (at_builtin; refine wpList_app _ rfl (.tmp 17) (.tmp 20) rfl Tryd.underlying57 info_u8 rfl (by omega) hown7 rfl _ 1 1 (Rd.one w6 5 (.int .u8 (ki : Int))) rfl (oneCell_one rfl) (by unfold maxLen; omega) (by omega) (Nat.le_trans b6.size (by simp)) ?_; intro v8 w8 hown8 hgrow8 _) | fail)
    have b8 : Below w3.heap.size w3 w8 := below_app (b6.alloc b6.size (.cells #[.int .u8 (ki : Int)] 5)) hown7 (Nat.le_refl _) (Nat.le_trans b6.size (by simp)) hgrow8
    obtain ⟨A8, c8, rfl⟩ := own_slice hown8
    rw [hfin.out] at hown8
    have hl8 : (putL k va se ki).length = n4 + 8 + 1 := by have := hown8.1; rw [bvs_length] at this; omega
    go_ret2
    exact ⟨A8, n4 + 8 + 1, c8, rfl, hl8, bs_of (Rd.of_own hown8) hl8, b3.trans (b8.mono hs3)⟩

set_option maxHeartbeats 800000 in
theorem refPut_no (w : World) (k v : ByteArray) (va se li ki : Nat) (hm : mayB k se ki = false) :
    Calls Tryd.prog 27 #[.agg #[.string k, .int .u32 (va : Int), .int .u64 (se : Int), .int .u64 (li : Int), .int .u8 (ki : Int), .string v]] w
      fun e w' => e = .returned (.tuple #[.slice none 0 0, .int .i64 1]) ∧ Below w.heap.size w w' := by
  have pm := refMay_any (w.alloc (.cells #[.string k, .int .u32 (va : Int), .int .u64 (se : Int), .int .u64 (li : Int), .int .u8 (ki : Int), .string v] 27)) k v va se li ki
  rw [hm] at pm
  replace hm := Lib.hid hm
  have hb := (Below.refl w.heap.size w).alloc (Nat.le_refl _) (.cells #[.string k, .int .u32 (va : Int), .int .u64 (se : Int), .int .u64 (li : Int), .int .u8 (ki : Int), .string v] 27)
  go_enter Tryd.func27, Tryd.ntmps27
  go_wp2_with fail
  refine pm.mono ?_
  clear pm
  rintro _ w1 ⟨rfl, b1⟩
  replace b1 := hb.trans (b1.mono hb.size)
  clear hb
  go_wp2
  go_ret2
  exact ⟨rfl, b1⟩
end Go.Proofs.YtdifdbkbpeanhaaDoor
