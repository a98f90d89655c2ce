/- The walk of the document's Get. -/
import Derived.Test.YtelppijpmjoblaaKeyPlain
import Derived.Test.YtelppijpmjoblaaKeyGet
set_option linter.unusedSimpArgs false
set_option linter.unusedVariables false
namespace Herb
open Go Go.RowKit
theorem ba_of {s : ByteArray} {l : List UInt8} (h : s.data.toList = l) : s = ⟨l.toArray⟩ := ba_ext (by simpa using h)
theorem ba_empty (kk : ByteArray) : kk.toList.isEmpty = decide (kk.size = 0) := by
  rw [ba_toList]
  cases kk with
  | mk d => cases d with
    | mk l => cases l <;> rfl
theorem ba_append (a b : ByteArray) : (a ++ b).data.toList = a.data.toList ++ b.data.toList := by simp
end Herb
namespace Go.Proofs.Ytelppijpmjoblaa
open Go Go.RowKit Herb

set_option maxRecDepth 100000 in
set_option maxHeartbeats 1600000 in
theorem refGet_any (w : World) (A : Option Addr) (n c : Nat) (l : List UInt8) (hn : l.length = n) (hnc : n ≤ c) (hl : n ≤ 1000000) (hb : Bs w A l) (e : Nat) (K : List UInt8) (va se ki : Nat) (hG : getP l = (e, K, va, se, ki)) :
    Calls Try.prog 12 #[.slice A n c] w fun e' w' => e' = .returned (.tuple #[.agg #[.string ⟨K.toArray⟩, .int .u32 (va : Int), .int .u64 (se : Int), .int .u64 0, .int .u8 (ki : Int), .string ⟨#[]⟩], .int .i64 (e : Int)]) ∧ Below w.heap.size w w' := by
  obtain ⟨⟨e0, key, rest⟩, hR⟩ : ∃ R, unA [] l = R := ⟨_, rfl⟩
  unfold getP at hG
  rw [hR] at hG
  simp only at hG
  have kb := Blk.new w 29 #[.string ⟨#[]⟩, .int .u32 0, .int .u64 0, .int .u64 0, .int .u8 0, .string ⟨#[]⟩]
  have b0 := (Below.refl w.heap.size w).alloc (Nat.le_refl _) (.cells #[.string ⟨#[]⟩, .int .u32 0, .int .u64 0, .int .u64 0, .int .u8 0, .string ⟨#[]⟩] 29)
  replace hb := hb.alloc (.cells #[.string ⟨#[]⟩, .int .u32 0, .int .u64 0, .int .u64 0, .int .u8 0, .string ⟨#[]⟩] 29)
  replace hn := Lib.hid hn
  replace hR := Lib.hid hR
  replace hG := Lib.hid hG
  go_enter Try.func12, Try.ntmps12
  go_wp2_with fail
  generalize w.alloc (.cells #[.string ⟨#[]⟩, .int .u32 0, .int .u64 0, .int .u64 0, .int .u8 0, .string ⟨#[]⟩] 29) = w1 at *
  go_loop [4, 5] (fun s i => ∃ (k : Nat) (kk : ByteArray), k ≤ n ∧ i = .int .i64 (k : Int) ∧ s = .string kk ∧ kk.size ≤ k ∧ Hid (unA kk.data.toList (l.drop k) = (e0, key, rest))) (fun _ i => n - (intOf i).toNat)
  case atStart => exact ⟨0, ⟨#[]⟩, by omega, rfl, rfl, Nat.le_refl 0, Lib.hid hR.out⟩
  case round =>
    obtain ⟨k, kk, hk, rfl, rfl, hkk, hacc⟩ := hrel
    by_cases hlt : k < n
    · obtain ⟨b, off, rfl, hq, hcell⟩ := hb.at_ (k := k) (by rw [hn.out]; exact hlt)
      have hck := hcell k (by rw [hn.out]; exact hlt)
      have hdrop := List.drop_eq_getElem_cons (l := l) (i := k) (by rw [hn.out]; exact hlt)
      have ha := hacc.out
      rw [hdrop] at ha
      obtain ⟨x, hx⟩ : ∃ x, l[k]'(by rw [hn.out]; exact hlt) = x := ⟨_, rfl⟩
      rw [hx] at hck ha hdrop
      replace hdrop := Lib.hid hdrop
      replace hx := Lib.hid hx
      have e1 : decide (n ≤ k) = false := decide_eq_false (by omega)
      by_cases hx0 : x = 0
      · subst hx0
        rw [show ((0 : UInt8).toNat : Int) = 0 from rfl] at hck
        by_cases hend : k + 1 = n
        · have hke : ((k : Int) + 1 == (n : Int)) = true := by simp; omega
          have hd1 : l.drop (k + 1) = [] := List.drop_of_length_le (by rw [hn.out]; omega)
          rw [hd1] at ha
          have he : e0 = 5 := by
            have := ha
            simp [unA] at this
            exact this.1.symm
          subst he
          have hG2 := hG.out
          rw [if_pos (by omega)] at hG2
          injection hG2 with hG1 hG2
          injection hG2 with hG2 hG3
          injection hG3 with hG3 hG4
          injection hG4 with hG4 hG5
          subst hG1
          subst hG2
          subst hG3
          subst hG4
          subst hG5
          replace hend := Lib.hid hend
          clear ha hd1 hcell
          go_wp2_with (refine wpList_store_blk rfl 29 (.tmp 2) (.tmp 26) rfl w.heap.size rfl kb #[.string ⟨#[]⟩, .int .u32 0, .int .u64 0, .int .u64 0, .int .u8 0, .string ⟨#[]⟩] rfl fact_size rfl (cells6 rfl rfl rfl rfl rfl rfl) ?_)
          exact bodyPost_ret (results_blk2 rfl _ w.heap.size rfl (kb.setRow _) Try.underlying29 rfl fact_size) rfl ⟨rfl, below_setRow' b0 (Nat.le_refl _) _⟩
        · have hlt2 : k + 1 < n := by omega
          have hke : ((k : Int) + 1 == (n : Int)) = false := by simp; omega
          have hcd := hcell (k + 1) (by rw [hn.out]; exact hlt2)
          have hdrop2 := List.drop_eq_getElem_cons (l := l) (i := k + 1) (by rw [hn.out]; exact hlt2)
          rw [hdrop2] at ha
          obtain ⟨d, hd⟩ : ∃ d, l[k + 1]'(by rw [hn.out]; exact hlt2) = d := ⟨_, rfl⟩
          rw [hd] at hcd ha
          have k1 : (k : Int) + 1 < (n : Int) := by omega
          have k2 : (k : Int) + 2 - 1 = (k : Int) + 1 := by omega
          clear hcell
          replace hdrop2 := Lib.hid hdrop2
          replace hd := Lib.hid hd
          by_cases hd0 : d = 0
          · subst hd0
            rw [show ((0 : UInt8).toNat : Int) = 0 from rfl] at hcd
            rw [unA_end] at ha
            injection ha with ha1 ha2
            injection ha2 with ha2 ha3
            have he0 : e0 = 0 := ha1.symm
            subst he0
            replace ha2 := Lib.hid ha2
            replace ha3 := Lib.hid ha3
            have ha2' := ha2.out
            obtain ⟨z, hz⟩ : ∃ z, kk.size = z := ⟨_, rfl⟩
            have hkl : key.length = z := by rw [← ha2', ← hz]; rfl
            have hnil : kk.toList.isEmpty = decide (z = 0) := by rw [ba_empty, hz]
            by_cases hz0 : z = 0
            · have f1 : kk.toList = [] := by rw [hz0] at hnil; simpa using hnil
              have hG2 := hG.out
              rw [if_neg (by simp), if_pos (by omega)] at hG2
              injection hG2 with hG1 hG2
              injection hG2 with hG2 hG3
              injection hG3 with hG3 hG4
              injection hG4 with hG4 hG5
              subst hG1
              subst hG2
              subst hG3
              subst hG4
              subst hG5
              replace hnil := Lib.hid hnil
              replace hz := Lib.hid hz
              go_wp2_with (refine wpList_store_blk rfl 29 (.tmp 2) (.tmp 66) rfl w.heap.size rfl kb #[.string ⟨#[]⟩, .int .u32 0, .int .u64 0, .int .u64 0, .int .u8 0, .string ⟨#[]⟩] rfl fact_size rfl (cells6 rfl rfl rfl rfl rfl rfl) ?_)
              exact bodyPost_ret (results_blk2 rfl _ w.heap.size rfl (kb.setRow _) Try.underlying29 rfl fact_size) rfl ⟨rfl, below_setRow' b0 (Nat.le_refl _) _⟩
            · have f1 : kk.toList.isEmpty = false := by rw [hnil]; simpa using hz0
              replace hnil := Lib.hid hnil
              by_cases hz32 : 32 < z
              · have f2 : decide ((32 : Int) < (z : Int)) = true := decide_eq_true (by omega)
                have hG2 := hG.out
                rw [if_neg (by simp), if_pos (by omega)] at hG2
                injection hG2 with hG1 hG2
                injection hG2 with hG2 hG3
                injection hG3 with hG3 hG4
                injection hG4 with hG4 hG5
                subst hG1
                subst hG2
                subst hG3
                subst hG4
                subst hG5
                go_wp2_with (refine wpList_store_blk rfl 29 (.tmp 2) (.tmp 66) rfl w.heap.size rfl kb #[.string ⟨#[]⟩, .int .u32 0, .int .u64 0, .int .u64 0, .int .u8 0, .string ⟨#[]⟩] rfl fact_size rfl (cells6 rfl rfl rfl rfl rfl rfl) ?_)
                exact bodyPost_ret (results_blk2 rfl _ w.heap.size rfl (kb.setRow _) Try.underlying29 rfl fact_size) rfl ⟨rfl, below_setRow' b0 (Nat.le_refl _) _⟩
              · have f2 : decide ((32 : Int) < (z : Int)) = false := decide_eq_false (by omega)
                have hGq := hG.out
                rw [if_neg (by simp), if_neg (by omega)] at hGq
                have k3 : (k : Int) + 2 ≤ (n : Int) := by omega
                have k4 : (0 : Int) ≤ (k : Int) + 2 := by omega
                have k5 : (n : Int) ≤ (c : Int) := by omega
                obtain ⟨m1, hm1⟩ : ∃ m1, n - (k + 2) = m1 := ⟨_, rfl⟩
                have hrl : rest.length = m1 := by rw [← ha3.out, List.length_drop, hn.out, ← hm1]
                rw [hrl] at hGq
                replace hGq := Lib.hid hGq
                by_cases hm13 : m1 < 13
                · have f3 : decide ((m1 : Int) < 13) = true := decide_eq_true (by omega)
                  have hG2 := hGq.out
                  rw [if_pos hm13] at hG2
                  injection hG2 with hG1 hG2
                  injection hG2 with hG2 hG3
                  injection hG3 with hG3 hG4
                  injection hG4 with hG4 hG5
                  subst hG1
                  subst hG2
                  subst hG3
                  subst hG4
                  subst hG5
                  by_cases hck2 : c = k + 2
                  · skip
                    go_wp2_with (refine wpList_store_blk rfl 29 (.tmp 2) (.tmp 73) rfl w.heap.size rfl kb #[.string ⟨#[]⟩, .int .u32 0, .int .u64 0, .int .u64 0, .int .u8 0, .string ⟨#[]⟩] rfl fact_size rfl (cells6 rfl rfl rfl rfl rfl rfl) ?_)
                    exact bodyPost_ret (results_blk2 rfl _ w.heap.size rfl (kb.setRow _) Try.underlying29 rfl fact_size) rfl ⟨rfl, below_setRow' b0 (Nat.le_refl _) _⟩
                  · skip
                    go_wp2_with (refine wpList_store_blk rfl 29 (.tmp 2) (.tmp 73) rfl w.heap.size rfl kb #[.string ⟨#[]⟩, .int .u32 0, .int .u64 0, .int .u64 0, .int .u8 0, .string ⟨#[]⟩] rfl fact_size rfl (cells6 rfl rfl rfl rfl rfl rfl) ?_)
                    exact bodyPost_ret (results_blk2 rfl _ w.heap.size rfl (kb.setRow _) Try.underlying29 rfl fact_size) rfl ⟨rfl, below_setRow' b0 (Nat.le_refl _) _⟩
                · have f3 : decide ((m1 : Int) < 13) = false := decide_eq_false (by omega)
                  have hck2 : ¬ c = k + 2 := by omega
                  have hGr := hGq.out
                  rw [if_neg hm13] at hGr
                  obtain ⟨C2, hC2⟩ : ∃ C2, c - (k + 2) = C2 := ⟨_, rfl⟩
                  have hC2' : m1 ≤ C2 := by omega
                  have hbr := bs_drop hb hn.out (show k + 2 ≤ n by omega)
                  rw [ha3.out] at hbr
                  have hb4 := hbr.take 4
                  have hb8 := Bs.cut (k := 4) (m := 8) hbr (by omega)
                  have hb12 := hbr.at_ (k := 12) (by omega)
                  obtain ⟨_, _, he12, _, hc12⟩ := hb12
                  cases he12
                  have hc12 := hc12 12 (by omega)
                  have hr12e : rest.getD 12 0 = rest[12]'(by omega) := by simp [List.getD, show 12 < rest.length by omega]
                  rw [hr12e] at hGr
                  obtain ⟨r12, hr12⟩ : ∃ r, (rest[12]'(by omega)).toNat = r := ⟨_, rfl⟩
                  rw [hr12] at hGr hc12
                  obtain ⟨nv, hnv⟩ : ∃ x, num (rest.take 4) = x := ⟨_, rfl⟩
                  obtain ⟨ns, hns⟩ : ∃ x, num ((rest.drop 4).take 8) = x := ⟨_, rfl⟩
                  have hnvl : nv < 4294967296 := by
                    rw [← hnv]
                    have := num_lt (rest.take 4)
                    rw [List.length_take, hrl, Nat.min_eq_left (by omega)] at this
                    exact this
                  have p1 := fun W hW cc => number_any W (some ⟨b, off + (k + 2), none⟩) 4 cc (rest.take 4) (by rw [List.length_take, hrl]; omega) (by omega) hW
                  have p2 := fun W hW cc => number_any W (some ⟨b, off + (k + 2) + 4, none⟩) 8 cc ((rest.drop 4).take 8) (by rw [List.length_take, List.length_drop, hrl]; omega) (by omega) hW
                  rw [hnv] at p1
                  rw [hns] at p2
                  have pa1 := fun cc => p1 w1.drew hb4 cc
                  have pa2 := fun cc => p1 (w1.alloc (.cells #[.string ⟨#[]⟩, .int .u32 0, .int .u64 0, .int .u64 0, .int .u8 0, .string ⟨#[]⟩] 29)).drew (hb4.alloc _) cc
                  have pb1 := fun cc => p2 w1.drew hb8 cc
                  have pb2 := fun cc => p2 (w1.alloc (.cells #[.string ⟨#[]⟩, .int .u32 0, .int .u64 0, .int .u64 0, .int .u8 0, .string ⟨#[]⟩] 29)).drew (hb8.alloc _) cc
                  have hca : (w1.alloc (.cells #[.string ⟨#[]⟩, .int .u32 0, .int .u64 0, .int .u64 0, .int .u8 0, .string ⟨#[]⟩] 29)).cell? ⟨b, off + (k + 2) + 12, none⟩ = some (.int .u8 (r12 : Int)) := by
                    rw [World.cell?_alloc_lt _ _ _ (by simpa using hq)]
                    exact hc12
                  have hcb : (w1.alloc (.cells #[.string kk, .int .u32 (nv : Int), .int .u64 (ns : Int), .int .u64 0, .int .u8 (r12 : Int), .string ⟨#[]⟩] 29)).cell? ⟨b, off + (k + 2) + 12, none⟩ = some (.int .u8 (r12 : Int)) := by
                    rw [World.cell?_alloc_lt _ _ _ (by simpa using hq)]
                    exact hc12
                  rw [hnv, hns] at hGr
                  have hu32 : IntKind.u32.wrap (nv : Int) = (nv : Int) := by rw [IntKind.wrap_u32]; omega
                  have j1 : (13 : Int) ≤ (m1 : Int) := by omega
                  have j2 : (12 : Int) < (m1 : Int) := by omega
                  have j3 : (m1 : Int) ≤ (C2 : Int) := by omega
                  have j4 : ¬ C2 = 4 := by omega
                  have j5 : (12 : Int) ≤ (C2 : Int) := by omega
                  have j6 : (4 : Int) ≤ (C2 : Int) := by omega
                  have j7 : 12 ≤ C2 := by omega
                  have j8 : 4 ≤ C2 := by omega
                  have kb7 := kb.alloc (.cells #[.string kk, .int .u32 (nv : Int), .int .u64 (ns : Int), .int .u64 0, .int .u8 (r12 : Int), .string ⟨#[]⟩] 29)
                  have b7 := b0.alloc b0.size (.cells #[.string kk, .int .u32 (nv : Int), .int .u64 (ns : Int), .int .u64 0, .int .u8 (r12 : Int), .string ⟨#[]⟩] 29)
                  have kt7 := Blk.new w1 29 #[.string kk, .int .u32 (nv : Int), .int .u64 (ns : Int), .int .u64 0, .int .u8 (r12 : Int), .string ⟨#[]⟩]
                  have hsz' : (ByteArray.mk key.toArray) = kk := (ba_of ha2').symm
                  replace kb7 := Lib.hid kb7
                  replace b7 := Lib.hid b7
                  replace kt7 := Lib.hid kt7
                  replace hnv := Lib.hid hnv
                  replace hns := Lib.hid hns
                  replace hr12 := Lib.hid hr12
                  replace hr12e := Lib.hid hr12e
                  replace hGr := Lib.hid hGr
                  replace pa1 := Lib.hid pa1
                  replace pa2 := Lib.hid pa2
                  replace pb1 := Lib.hid pb1
                  replace pb2 := Lib.hid pb2
                  replace hrl := Lib.hid hrl
                  replace hsz' := Lib.hid hsz'
                  replace ha2' := Lib.hid ha2'
                  replace hC2 := Lib.hid hC2
                  replace hm1 := Lib.hid hm1
                  have hC2o := hC2.out
                  have hm1o := hm1.out
                  clear p1 p2 hb4 hb8 hbr
                  go_wp2_with fail
                  go_region_held3 (fun w' => w'.cell? ⟨b, off + (k + 2) + 12, none⟩ = some (.int .u8 (r12 : Int)))
                    (first | exact hc12 | exact hca | exact hcb | (simp; exact hc12))
                    (first
                    | (go_at_call 26; (with_reducible refine (pa1.out _).mono ?_); rintro _ _ ⟨rfl, rfl⟩)
                    | (go_at_call 26; (with_reducible refine (pa2.out _).mono ?_); rintro _ _ ⟨rfl, rfl⟩)
                    | (go_at_call 26; (with_reducible refine (pb1.out _).mono ?_); rintro _ _ ⟨rfl, rfl⟩)
                    | (go_at_call 26; (with_reducible refine (pb2.out _).mono ?_); rintro _ _ ⟨rfl, rfl⟩))
                  all_goals
                    clear hc12 hca hcb pa1 pa2 pb1 pb2
                    have pm := refMay_any (w1.alloc (.cells #[.string kk, .int .u32 (nv : Int), .int .u64 (ns : Int), .int .u64 0, .int .u8 (r12 : Int), .string ⟨#[]⟩] 29)).drew kk ⟨#[]⟩ (nv : Int) ns 0 r12
                    have hmb : mayB kk ns r12 = decide (0 < ns ∧ r12 ≤ 1) := by
                      unfold mayB
                      rw [hz, decide_eq_true (show 1 ≤ z by omega), decide_eq_true (show z ≤ 32 by omega)]
                      simp
                    rw [hmb] at pm
                    clear hmb
                    replace pm := Lib.hid pm
                    by_cases hm14 : 13 < m1
                    · have f4 : decide ((13 : Int) < (m1 : Int)) = true := decide_eq_true (by omega)
                      have hG2 := hGr.out
                      rw [if_pos hm14] at hG2
                      injection hG2 with hG1 hG2
                      injection hG2 with hG2 hG3
                      injection hG3 with hG3 hG4
                      injection hG4 with hG4 hG5
                      subst hG1
                      subst hG2
                      subst hG3
                      subst hG4
                      subst hG5
                      have kb8 : Blk (w1.alloc (.cells #[.string kk, .int .u32 (nv : Int), .int .u64 (ns : Int), .int .u64 0, .int .u8 (r12 : Int), .string ⟨#[]⟩] 29)).drew w.heap.size 29 #[.string ⟨#[]⟩, .int .u32 0, .int .u64 0, .int .u64 0, .int .u8 0, .string ⟨#[]⟩] := kb7.out
                      have b8 : Below w.heap.size w (w1.alloc (.cells #[.string kk, .int .u32 (nv : Int), .int .u64 (ns : Int), .int .u64 0, .int .u8 (r12 : Int), .string ⟨#[]⟩] 29)).drew := b7.out.drew
                      go_wp2_with (refine wpList_store_blk rfl 29 (.tmp 2) (.tmp 94) rfl w.heap.size rfl kb8 #[.string ⟨#[]⟩, .int .u32 0, .int .u64 0, .int .u64 0, .int .u8 0, .string ⟨#[]⟩] rfl fact_size rfl (cells6 rfl rfl rfl rfl rfl rfl) ?_)
                      exact bodyPost_ret (results_blk2 rfl _ w.heap.size rfl (kb8.setRow _) Try.underlying29 rfl fact_size) rfl ⟨rfl, below_setRow' b8 (Nat.le_refl _) _⟩
                    · have f4 : decide ((13 : Int) < (m1 : Int)) = false := decide_eq_false (by omega)
                      have hGs := hGr.out
                      rw [if_neg hm14] at hGs
                      replace hGs := Lib.hid hGs
                      go_wp2_with fail
                      refine pm.out.mono ?_
                      clear pm
                      rintro _ w8 ⟨rfl, b8⟩
                      have kb8 := (show Blk (w1.alloc (.cells #[.string kk, .int .u32 (nv : Int), .int .u64 (ns : Int), .int .u64 0, .int .u8 (r12 : Int), .string ⟨#[]⟩] 29)).drew w.heap.size 29 #[.string ⟨#[]⟩, .int .u32 0, .int .u64 0, .int .u64 0, .int .u8 0, .string ⟨#[]⟩] from kb7.out).below b8 (by have := kb7.out.lt; exact this)
                      have kt8 := (show Blk (w1.alloc (.cells #[.string kk, .int .u32 (nv : Int), .int .u64 (ns : Int), .int .u64 0, .int .u8 (r12 : Int), .string ⟨#[]⟩] 29)).drew w1.heap.size 29 #[.string kk, .int .u32 (nv : Int), .int .u64 (ns : Int), .int .u64 0, .int .u8 (r12 : Int), .string ⟨#[]⟩] from kt7.out).below b8 (by have := kt7.out.lt; exact this)
                      have b9 := b7.out.drew.trans (b8.mono (Nat.le_trans b7.out.size (Nat.le_refl _)))
                      by_cases hok : 0 < ns ∧ r12 ≤ 1
                      · have hG2 := hGs.out
                        rw [if_pos hok] at hG2
                        injection hG2 with hG1 hG2
                        injection hG2 with hG2 hG3
                        injection hG3 with hG3 hG4
                        injection hG4 with hG4 hG5
                        subst hG1
                        subst hG3
                        subst hG4
                        subst hG5
                        rw [decide_eq_true hok]
                        go_wp2_with (first
                          | (refine wpList_load_blk rfl 29 (.tmp 7) rfl w1.heap.size rfl kt8 Try.underlying29 rfl fact_size ?_)
                          | (refine wpList_store_blk rfl 29 (.tmp 2) (.tmp 95) rfl w.heap.size rfl kb8 #[.string kk, .int .u32 (nv : Int), .int .u64 (ns : Int), .int .u64 0, .int .u8 (r12 : Int), .string ⟨#[]⟩] rfl fact_size rfl (cells6 rfl rfl rfl rfl rfl rfl) ?_))
                        exact bodyPost_ret (results_blk2 rfl _ w.heap.size rfl (kb8.setRow _) Try.underlying29 rfl fact_size) rfl ⟨by rw [← hG2, hsz'.out]; rfl, below_setRow' b9 (Nat.le_refl _) _⟩
                      · have hG2 := hGs.out
                        rw [if_neg hok] at hG2
                        injection hG2 with hG1 hG2
                        injection hG2 with hG2 hG3
                        injection hG3 with hG3 hG4
                        injection hG4 with hG4 hG5
                        subst hG1
                        subst hG2
                        subst hG3
                        subst hG4
                        subst hG5
                        rw [decide_eq_false hok]
                        go_wp2_with (refine wpList_store_blk rfl 29 (.tmp 2) (.tmp 94) rfl w.heap.size rfl kb8 #[.string ⟨#[]⟩, .int .u32 0, .int .u64 0, .int .u64 0, .int .u8 0, .string ⟨#[]⟩] rfl fact_size rfl (cells6 rfl rfl rfl rfl rfl rfl) ?_)
                        exact bodyPost_ret (results_blk2 rfl _ w.heap.size rfl (kb8.setRow _) Try.underlying29 rfl fact_size) rfl ⟨rfl, below_setRow' b9 (Nat.le_refl _) _⟩
          · have hdn : d.toNat ≠ 0 := fun h => hd0 (UInt8.toNat_inj.1 h)
            by_cases hd1 : d = 1
            · subst hd1
              rw [show ((1 : UInt8).toNat : Int) = 1 from rfl] at hcd
              rw [unA_one] at ha
              have hka : kk.data.toList ++ [0] = (kk ++ ⟨#[0]⟩).data.toList := by rw [ba_append]
              rw [hka] at ha
              replace ha := Lib.hid ha
              replace hka := Lib.hid hka
              go_wp2
              go_round
              case rel => exact ⟨k + 2, kk ++ ⟨#[0]⟩, by omega, by go_num, rfl, by rw [ByteArray.size_append]; show kk.size + 1 ≤ k + 2; omega, ha⟩
              case measure => simp [intOf]; omega
            · have hdn1 : d.toNat ≠ 1 := fun h => hd1 (UInt8.toNat_inj.1 h)
              rw [unA_bad _ _ _ hd0 hd1] at ha
              injection ha with ha1 ha2
              have he0 : e0 = 4 := ha1.symm
              subst he0
              have hG2 := hG.out
              rw [if_pos (by omega)] at hG2
              injection hG2 with hG1 hG2
              injection hG2 with hG2 hG3
              injection hG3 with hG3 hG4
              injection hG4 with hG4 hG5
              subst hG1
              subst hG2
              subst hG3
              subst hG4
              subst hG5
              have e2 : decide ((1 : Int) < (d.toNat : Int)) = true := decide_eq_true (by omega)
              go_wp2_with (refine wpList_store_blk rfl 29 (.tmp 2) (.tmp 48) rfl w.heap.size rfl kb #[.string ⟨#[]⟩, .int .u32 0, .int .u64 0, .int .u64 0, .int .u8 0, .string ⟨#[]⟩] rfl fact_size rfl (cells6 rfl rfl rfl rfl rfl rfl) ?_)
              exact bodyPost_ret (results_blk2 rfl _ w.heap.size rfl (kb.setRow _) Try.underlying29 rfl fact_size) rfl ⟨rfl, below_setRow' b0 (Nat.le_refl _) _⟩
      · have hxn : x.toNat ≠ 0 := fun h => hx0 (UInt8.toNat_inj.1 h)
        have e2 : ((x.toNat : Int) == 0) = false := by simp; omega
        have e3 : ((x.toNat : Int) != 0) = true := by simp; omega
        rw [unA_ne _ _ _ hx0] at ha
        have hcut := Bs.cut (k := k) (m := 1) hb (by rw [hn.out]; omega)
        have hone : (l.drop k).take 1 = [x] := by rw [hdrop.out]; rfl
        rw [hone] at hcut
        have kst := fun c' => run_str (P := Try.prog) hcut 22 9 5 Try.underlying22 Try.underlying5 Try.underlying9 1 c' rfl
        have i0 : ¬ c = k := by omega
        have i1 : k + 1 - k = 1 := by omega
        have i2 : (k : Int) + 1 ≤ (c : Int) := by omega
        have hsz1 : (ByteArray.mk [x].toArray).size = 1 := rfl
        have hka : kk.data.toList ++ [x] = (kk ++ ⟨[x].toArray⟩).data.toList := by rw [ba_append]
        rw [hka] at ha
        replace ha := Lib.hid ha
        replace hka := Lib.hid hka
        clear hcell
        go_wp2
        go_round
        case rel => exact ⟨k + 1, kk ++ ⟨#[x]⟩, by omega, by go_num, rfl, by rw [ByteArray.size_append]; show kk.size + 1 ≤ k + 1; omega, ha⟩
        case measure => simp [intOf]; omega
    · have hkn : k = n := by omega
      have ha := hacc.out
      rw [List.drop_of_length_le (by rw [hn.out]; omega)] at ha
      unfold unA at ha
      injection ha with ha1 ha2
      have hG2 := hG.out
      rw [if_pos (by rw [← ha1]; omega), ← ha1] at hG2
      injection hG2 with hG1 hG2
      injection hG2 with hG2 hG3
      injection hG3 with hG3 hG4
      injection hG4 with hG4 hG5
      subst hG1
      subst hG2
      subst hG3
      subst hG4
      subst hG5
      clear ha1 ha2
      have e1 : decide (n ≤ k) = true := decide_eq_true (by omega)
      replace hkn := Lib.hid hkn
      go_wp2_with (refine wpList_store_blk rfl 29 (.tmp 2) (.tmp 26) rfl w.heap.size rfl kb #[.string ⟨#[]⟩, .int .u32 0, .int .u64 0, .int .u64 0, .int .u8 0, .string ⟨#[]⟩] rfl fact_size rfl (cells6 rfl rfl rfl rfl rfl rfl) ?_)
      exact bodyPost_ret (results_blk2 rfl _ w.heap.size rfl (kb.setRow _) Try.underlying29 rfl fact_size) rfl ⟨rfl, below_setRow' b0 (Nat.le_refl _) _⟩
end Go.Proofs.Ytelppijpmjoblaa
