/- Walks of keys' falling, tailOf, escaped, Put, Seek. -/
import Derived.Test.YtdifdbkbpeanhaaDoorKeyLaw
import Derived.Test.YtdifdbkbpeanhaaDoorStill
import Derived.Test.YtdifdbkbpeanhaaDoorTwinB
import Derived.Test.YtdifdbkbpeanhaaDoorMg1
set_option linter.unusedSimpArgs false
set_option linter.unusedVariables false
namespace Herb
open Go Go.RowKit
theorem xor255 : ∀ b : Fin 256, 255 ^^^ b.1 = 255 - b.1 := by decide +kernel
theorem only_drew {a w : World} {row : Option Nat} (h : a.grownBy w row) : a.grownBy w.drew row := ⟨h.os, h.tape, h.output, h.size, h.block⟩
theorem only_store {a w : World} {g : Nat} (h : a.grownBy w (some g)) {p : Addr} (hp : p.block = g) (u : Value) : a.grownBy (w.setCell p u) (some g) :=
  ⟨h.os, h.tape, h.output, by simpa [World.setCell] using h.size, fun i hi hne => (Below.heap_setCell w p u i (by
    rintro rfl
    exact hne (by rw [hp]))).trans (h.block i hi hne)⟩
theorem bvs_set (l : List UInt8) (i : Nat) (c : UInt8) : (bvs l).toArray.setIfInBounds i (.int .u8 (c.toNat : Int)) = (bvs (l.set i c)).toArray := by
  rw [List.setIfInBounds_toArray]
  congr 1
  unfold bvs bv
  rw [List.map_set]
end Herb
namespace Go.Proofs.YtdifdbkbpeanhaaDoor
open Go Go.RowKit Herb

set_option maxRecDepth 100000 in
set_option maxHeartbeats 800000 in
theorem falling_any (w : World) (g : Nat) (T : List UInt8) (hT : T.length = 13) (hg : Blk w g 83 (bvs T).toArray) (f m n : Nat) (hf : f + m ≤ 13) (hm : m ≤ 8) (hn : n < 18446744073709551616) :
    Calls Tryd.prog 53 #[.pointer (some ⟨g, 0, none⟩), .int .i64 (f : Int), .int .i64 (m : Int), .int .u64 (n : Int)] w
      fun e w' => e = .returned (.tuple #[]) ∧ Blk w' g 83 (bvs (laidB T f m n m)).toArray ∧ w.grownBy w' (some g) := by
  have hfol : Tryd.prog.follows .mixedOrders = true := by kernel_rfl
  go_enter Tryd.func53, Tryd.ntmps53
  go_wp2
  go_loopw [10] (fun i wr => ∃ k : Nat, k ≤ m ∧ i = .int .i64 (k : Int) ∧ Blk wr g 83 (bvs (laidB T f m n k)).toArray ∧ w.grownBy wr (some g)) (fun i _ => m - (intOf i).toNat)
  case atStart => exact ⟨0, by omega, rfl, by rw [laidB_zero]; exact hg, World.grownBy.refl w _⟩
  case round =>
    obtain ⟨k, hk, rfl, hb, hgr⟩ := hrel
    by_cases hlt : k < m
    · obtain ⟨p, hp⟩ : ∃ p, f + k = p := ⟨_, rfl⟩
      obtain ⟨q, hq⟩ : ∃ q, m - 1 - k = q := ⟨_, rfl⟩
      have a1 : IntKind.i64.wrap ((f : Int) + (k : Int)) = (p : Int) := by rw [IntKind.wrap_i64]; omega
      have a2 : IntKind.i64.wrap ((m : Int) - 1) = (m : Int) - 1 := by rw [IntKind.wrap_i64]; omega
      have a3 : IntKind.i64.wrap ((m : Int) - 1 - (k : Int)) = (q : Int) := by rw [IntKind.wrap_i64]; omega
      have a4 : IntKind.i64.wrap (8 * (q : Int)) = ((8 * q : Nat) : Int) := by rw [IntKind.wrap_i64]; omega
      have hp13 : p < 13 := by omega
      have p0 : (0 : Int) ≤ (p : Int) := by omega
      have p13 : (p : Int) < 13 := by omega
      go_wp2_with fail
      refine still_tail 15 hfol (by kernel_rfl) ?_
      simp only [List.take_succ_cons, List.take_zero, List.drop_succ_cons, List.drop_zero]
      iterate 15 still_step
      refine wpStill_nil ?_
      have hx : bits .xor .u8 (if IntKind.u8.signed = true then -1 else IntKind.u8.max) (IntKind.u8.wrap ((n : Int) / 2 ^ (8 * (q : Int)).toNat)) = ((tb n m k).toNat : Int) := by
        have e1 : (8 * (q : Int)).toNat = 8 * q := by omega
        obtain ⟨b, hb'⟩ : ∃ b, n / 2 ^ (8 * q) % 256 = b := ⟨_, rfl⟩
        have hb256 : b < 256 := by rw [← hb']; exact Nat.mod_lt _ (by omega)
        have e2 : IntKind.u8.wrap ((n : Int) / 2 ^ (8 * q)) = (b : Int) := by
          rw [IntKind.wrap_u8, ← hb']
          simp
        have h := u8_xor_nat 255 b (by omega) hb256
        have e3 : 255 ^^^ b = 255 - b := by
          have := xor255 ⟨b, hb256⟩
          exact this
        rw [e1, e2]
        show bits .xor .u8 255 (b : Int) = _
        rw [show (255 : Int) = ((255 : Nat) : Int) by rfl, h, e3]
        unfold tb
        rw [hq, hb', UInt8.toNat_ofNat', Nat.mod_eq_of_lt (by omega)]
      rw [hx]
      clear hx
      have hcc := hb.cell p
      have hl13 : (laidB T f m n k).length = 13 := by rw [laidB_length, hT]
      rw [List.getElem?_toArray, bvs_get (by omega)] at hcc
      have hff := hb.frozen p
      have hst := hb.store p (.int .u8 ((tb n m k).toNat : Int))
      have hgs := only_store hgr (p := ⟨g, p, none⟩) rfl (.int .u8 ((tb n m k).toNat : Int))
      rw [bvs_set, ← hp, ← laidB_succ] at hst
      rw [hp] at hst
      go_wp2
      go_roundw
      case rel => exact ⟨k + 1, by omega, by go_num, hst, only_drew hgs⟩
      case measure => simp [intOf]; omega
    · obtain rfl : k = m := by omega
      go_wp2
      go_end0
      exact ⟨rfl, hb, hgr⟩

theorem falling_at (w : World) (g : Nat) (T : List UInt8) (hT : T.length = 13) (hg : Blk w g 83 (bvs T).toArray) (f m n : Nat) (F M : Int) (hF : F = (f : Int)) (hM : M = (m : Int)) (hf : f + m ≤ 13) (hm : m ≤ 8) (hn : n < 18446744073709551616) :
    Calls Tryd.prog 53 #[.pointer (some ⟨g, 0, none⟩), .int .i64 F, .int .i64 M, .int .u64 (n : Int)] w
      fun e w' => e = .returned (.tuple #[]) ∧ Blk w' g 83 (bvs (laidB T f m n m)).toArray ∧ w.grownBy w' (some g) := by
  subst hF
  subst hM
  exact falling_any w g T hT hg f m n hf hm hn
theorem tail_size : (Tryd.prog.info? 83).map (·.size) = some 13 := by kernel_rfl
theorem tail_cells (va se ki : Nat) : (Tryd.prog.info? 83).map (·.size) = some (bvs (tailL va se ki)).toArray.size := by rw [List.size_toArray, bvs_length, tailL_length]; exact tail_size
theorem bvs_all (l : List UInt8) : (bvs l).toArray.all (·.oneCell') = true := by
  rw [Array.all_eq_true_iff_forall_mem]
  intro v hv
  exact bvs_one l v (by simpa using hv)
set_option maxRecDepth 100000 in
set_option maxHeartbeats 800000 in
theorem tailOf_any (w : World) (va se ki : Nat) (h1 : va < 4294967296) (h2 : se < 18446744073709551616) (h3 : ki < 256) :
    Calls Tryd.prog 37 #[.int .u32 (va : Int), .int .u64 (se : Int), .int .u8 (ki : Int)] w fun e w' => e = .returned (.agg (bvs (tailL va se ki)).toArray) ∧ Below w.heap.size w w' := by
  go_enter Tryd.func37, Tryd.ntmps37
  have k0 : Blk (w.alloc (.cells #[.int .u8 0, .int .u8 0, .int .u8 0, .int .u8 0, .int .u8 0, .int .u8 0, .int .u8 0, .int .u8 0, .int .u8 0, .int .u8 0, .int .u8 0, .int .u8 0, .int .u8 0] 83)) w.heap.size 83 (bvs (List.replicate 13 0)).toArray := Blk.new w _ _
  have b0 := (Below.refl w.heap.size w).alloc (Nat.le_refl _) (.cells #[.int .u8 0, .int .u8 0, .int .u8 0, .int .u8 0, .int .u8 0, .int .u8 0, .int .u8 0, .int .u8 0, .int .u8 0, .int .u8 0, .int .u8 0, .int .u8 0, .int .u8 0] 83)
  go_wp2_with fail
  refine (falling_at _ w.heap.size _ (by simp) k0 0 4 va 0 4 rfl rfl (by omega) (by omega) (by omega)).mono ?_
  rintro _ w1 ⟨rfl, k1, g1⟩
  have b1 : Below w.heap.size w w1 := b0.grown g1 (by simp) (fun k e => by cases e; exact Nat.le_refl _)
  clear k0 g1 b0
  go_wp2_with fail
  refine (falling_at w1 w.heap.size _ (by rw [laidB_length]; simp) k1 4 8 se 4 8 rfl rfl (by omega) (by omega) h2).mono ?_
  rintro _ w2 ⟨rfl, k2, g2⟩
  have b2 : Below w.heap.size w w2 := b1.grown g2 b1.size (fun k e => by cases e; exact Nat.le_refl _)
  clear k1 g2 b1
  have hl2 : (laidB (laidB (List.replicate 13 0) 0 4 va 4) 4 8 se 8).length = 13 := by rw [laidB_length, laidB_length]; simp
  have hc12 := k2.cell 12
  rw [List.getElem?_toArray, bvs_get (by rw [hl2]; omega)] at hc12
  have hf12 := k2.frozen 12
  have k3 := k2.store 12 (.int .u8 (ki : Int))
  have hki : (ki : Int) = ((UInt8.ofNat ki).toNat : Int) := by rw [UInt8.toNat_ofNat', Nat.mod_eq_of_lt h3]
  rw [hki, bvs_set, tailL_laid, ← hki] at k3
  clear hki
  have b3 := b2.setCell (p := ⟨w.heap.size, 12, none⟩) (Nat.le_refl _) (.int .u8 (ki : Int))
  go_wp2_with (first
    | (refine wpList_load_blk rfl 83 _ rfl w.heap.size rfl k3 Tryd.underlying83 rfl (tail_cells va se ki) ?_)
    | (refine wpList_store_same rfl 83 (.tmp 6) (.tmp 14) rfl w.heap.size rfl k3 rfl (tail_cells va se ki) (bvs_all _) ?_))
  exact bodyPost_ret (results_blk rfl _ w.heap.size rfl k3 Tryd.underlying83 rfl (tail_cells va se ki)) rfl ⟨rfl, b3⟩

theorem clip_any (w : World) (A : Option Addr) (n c : Nat) (hnc : n ≤ c) (hc : c ≤ 140737488355328) :
    Calls Tryd.prog 38 #[.slice A n c] w fun e w' => e = .returned (.slice A n n) ∧ w = w' := by
  go_enter Tryd.func38, Tryd.ntmps38
  go_wp2
  go_ret
  exact ⟨rfl, rfl⟩

set_option maxRecDepth 100000 in
set_option maxHeartbeats 1600000 in
theorem escaped_any (w : World) (s : ByteArray) (n : Nat) (hn : s.size = n) (hl : n ≤ 100000) :
    Calls Tryd.prog 39 #[.string s] w fun e w' => ∃ v k, e = .returned v ∧ k = (esc s.data.toList).length ∧ w'.ownsRow w.heap.size 5 1 v k (bvs (esc s.data.toList)) ∧ Below w.heap.size w w' := by
  have hn' := Lib.hid hn
  have hmk := fun W => make_cap (P := Tryd.prog) Tryd.underlying57 info_u8 rfl (2 * n + 2) (2 * (n : Int) + 2) (by omega) (by omega) (by omega) W
  go_enter Tryd.func39, Tryd.ntmps39
  have own0 : (w.alloc (.cells (Array.replicate (2 * n + 2) (Value.int .u8 0)) 5)).ownsRow w.heap.size 5 1 (.slice (some ⟨w.heap.size, 0, none⟩) 0 (2 * n + 2)) 0 (bvs (escB (s.data.toList.take 0))) := by
    have h := World.ownsRow_made (base := w.heap.size) (e := 5) (size := 1) w (Array.replicate (2 * n + 2) (Value.int .u8 0)) (2 * n + 2) (Nat.le_refl _) (by unfold maxLen; omega) (by simp)
    simpa [escB, bvs] using h
  have b0 := (Below.refl w.heap.size w).alloc (Nat.le_refl _) (.cells (Array.replicate (2 * n + 2) (Value.int .u8 0)) 5)
  go_wp2
  clear hmk
  go_loopw [3, 12] (fun v i wr => ∃ k m : Nat, k ≤ n ∧ i = .int .i64 (k : Int) ∧ m ≤ 2 * k ∧ wr.ownsRow w.heap.size 5 1 v m (bvs (escB (s.data.toList.take k))) ∧ Below w.heap.size w wr) (fun _ i _ => n - (intOf i).toNat)
  case atStart => exact ⟨0, 0, by omega, rfl, by omega, own0, b0⟩
  case round =>
    clear own0 b0
    obtain ⟨k, m, hk, rfl, hm, hown, hbel⟩ := hrel
    by_cases hlt : k < n
    · have hlt2 : k < s.size := by omega
      obtain ⟨c, hc⟩ : ∃ c, s[k] = c := ⟨_, rfl⟩
      have htake : s.data.toList.take (k + 1) = s.data.toList.take k ++ [c] := by
        rw [List.take_succ_eq_append_getElem (by simpa using hlt2), ← hc]
        rfl
      obtain ⟨y, hy⟩ : ∃ y, c.toNat = y := ⟨_, rfl⟩
      have hy' := Lib.hid hy
      by_cases hz : c = 0
      · have hes : bvs (escB (s.data.toList.take (k + 1))) = bvs (escB (s.data.toList.take k)) ++ [.int .u8 0] ++ [.int .u8 1] := by
          rw [htake, escB_snoc, if_pos hz]
          simp [bvs, bv]
        obtain rfl : y = 0 := by rw [← hy, hz]; rfl
        replace hes := Lib.hid hes
        replace hz := Lib.hid hz
        replace htake := Lib.hid htake
        go_wp2_with (first
          | (at_builtin; refine wpList_app _ rfl (.tmp 15) (.tmp 19) rfl Tryd.underlying57 info_u8 rfl (by omega) (hown.alloc (.cells #[.int .u8 0] 5)) rfl _ 1 1 (Rd.one wr 5 (.int .u8 0)) rfl (oneCell_one rfl) (by unfold maxLen; omega) (by omega) (by have := hbel.size; simp; omega) ?_; intro v2 w2 hown2 hgrow2 hlie2; have b2 : Below w.heap.size w w2 := below_app (hbel.alloc hbel.size _) (hown.alloc _) (Nat.le_refl _) (by have := hbel.size; simp; omega) hgrow2)
          | (at_builtin; refine wpList_app _ rfl (.tmp 25) (.tmp 26) rfl Tryd.underlying57 info_u8 rfl (by omega) (hown2.alloc (.cells #[.int .u8 1] 5)) rfl _ 1 1 (Rd.one w2 5 (.int .u8 1)) rfl (oneCell_one rfl) (by unfold maxLen; omega) (by omega) (by have := b2.size; simp; omega) ?_; intro v3 w3 hown3 hgrow3 hlie3; have b3 : Below w.heap.size w w3 := below_app (b2.alloc b2.size _) (hown2.alloc _) (Nat.le_refl _) (by have := b2.size; simp; omega) hgrow3))
        rw [← hes.out] at hown3
        go_roundw
        case rel => exact ⟨k + 1, m + 1 + 1, by omega, by go_num, by omega, hown3, b3⟩
        case measure => simp [intOf]; omega
      · have hes : bvs (escB (s.data.toList.take (k + 1))) = bvs (escB (s.data.toList.take k)) ++ [.int .u8 (y : Int)] := by
          rw [htake, escB_snoc, if_neg hz]
          simp [bvs, bv, hy]
        have hne : ((y : Int) == 0) = false := by
          have : y ≠ 0 := fun e => hz (UInt8.toNat_inj.1 (by rw [hy, e]; rfl))
          simp; omega
        replace hes := Lib.hid hes
        replace hz := Lib.hid hz
        replace htake := Lib.hid htake
        go_wp2_with (at_builtin; refine wpList_app _ rfl (.tmp 15) (.tmp 19) rfl Tryd.underlying57 info_u8 rfl (by omega) (hown.alloc (.cells #[.int .u8 (y : Int)] 5)) rfl _ 1 1 (Rd.one wr 5 (.int .u8 (y : Int))) rfl (oneCell_one rfl) (by unfold maxLen; omega) (by omega) (by have := hbel.size; simp; omega) ?_; intro v2 w2 hown2 hgrow2 hlie2; have b2 : Below w.heap.size w w2 := below_app (hbel.alloc hbel.size _) (hown.alloc _) (Nat.le_refl _) (by have := hbel.size; simp; omega) hgrow2)
        rw [← hes.out] at hown2
        go_roundw
        case rel => exact ⟨k + 1, m + 1, by omega, by go_num, by omega, hown2, b2⟩
        case measure => simp [intOf]; omega
    · obtain rfl : k = n := by omega
      have hes : bvs (escB (s.data.toList.take k)) ++ [.int .u8 0, .int .u8 0] = bvs (esc s.data.toList) := by
        rw [List.take_of_length_le (by simp; omega)]
        simp [esc, bvs, bv]
      have r2 : Rd (wr.alloc (.cells #[.int .u8 0, .int .u8 0] 5)) 1 (some ⟨wr.heap.size, 0, none⟩) 2 [.int .u8 0, .int .u8 0] := (Blk.new wr 5 _).rd rfl (fun j u hu => by simpa using hu)
      replace hes := Lib.hid hes
      go_wp2_with (at_builtin; refine wpList_app _ rfl (.tmp 29) (.tmp 30) rfl Tryd.underlying57 info_u8 rfl (by omega) (hown.alloc (.cells #[.int .u8 0, .int .u8 0] 5)) rfl _ 2 2 r2 rfl (by intro x hx; simp at hx; rw [hx]; rfl) (by unfold maxLen; omega) (by omega) (by have := hbel.size; simp; omega) ?_; intro v2 w2 hown2 hgrow2 hlie2; have b2 : Below w.heap.size w w2 := below_app (hbel.alloc hbel.size _) (hown.alloc _) (Nat.le_refl _) (by have := hbel.size; simp; omega) hgrow2)
      rw [hes.out] at hown2
      go_ret
      exact ⟨_, _, rfl, by have := hown2.1; rw [bvs_length] at this; omega, hown2, b2⟩
end Go.Proofs.YtdifdbkbpeanhaaDoor
