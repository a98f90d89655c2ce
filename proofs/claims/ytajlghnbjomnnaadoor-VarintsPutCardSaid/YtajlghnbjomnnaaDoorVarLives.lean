/- Walks of the statements' helpers of layer 1: got, no, text, lives. -/
import Derived.Test.YtajlghnbjomnnaaDoorPutText
import Derived.Test.YtajlghnbjomnnaaDoorGetText
set_option linter.unusedSimpArgs false
set_option linter.unusedVariables false
namespace Go.Proofs.YtajlghnbjomnnaaDoor
open Go Go.RowKit Herb

theorem got_yes (w : World) (A : Option Addr) (n c v t : Nat) (l : List UInt8) (hln : l.length = n) (hn : n ≤ 140737488355328) (hb : Bs w A l) (hd : dec l = (v, t, 0)) :
    Calls Tryd.prog 15 #[.slice A n c, .int .u64 (v : Int), .int .i64 (t : Int)] w fun e w' => e = .returned (.bool true) ∧ w = w' := by
  have hg := get_any w A n c l hln hn hb
  rw [hd] at hg
  replace hd := Lib.hid hd
  go_enter Tryd.func15, Tryd.ntmps15
  go_wp2_with fail
  refine hg.mono ?_
  rintro _ _ ⟨rfl, rfl⟩
  go_wp2
  go_ret
  exact ⟨rfl, rfl⟩
theorem no_yes (w : World) (A : Option Addr) (n c e : Nat) (l : List UInt8) (hln : l.length = n) (hn : n ≤ 140737488355328) (hb : Bs w A l) (hd : dec l = (0, 0, e)) :
    Calls Tryd.prog 16 #[.slice A n c, .int .i64 (e : Int)] w fun e w' => e = .returned (.bool true) ∧ w = w' := by
  have hg := get_any w A n c l hln hn hb
  rw [hd] at hg
  replace hd := Lib.hid hd
  go_enter Tryd.func16, Tryd.ntmps16
  go_wp2_with fail
  refine hg.mono ?_
  rintro _ _ ⟨rfl, rfl⟩
  go_wp2
  go_ret
  exact ⟨rfl, rfl⟩
theorem text_yes (w : World) (A : Option Addr) (n c t : Nat) (l s : List UInt8) (hln : l.length = n) (hnc : n ≤ c) (hn : n ≤ 140737488355328) (hb : Bs w A l) (hd : decT l = (s, t, 0)) :
    Calls Tryd.prog 17 #[.slice A n c, .string ⟨s.toArray⟩, .int .i64 (t : Int)] w fun e w' => e = .returned (.bool true) ∧ w = w' := by
  have hg := getText_any w A n c l hln hnc hn hb
  rw [hd] at hg
  replace hd := Lib.hid hd
  go_enter Tryd.func17, Tryd.ntmps17
  go_wp2_with fail
  refine hg.mono ?_
  rintro _ _ ⟨rfl, rfl⟩
  go_wp2
  go_ret
  exact ⟨rfl, rfl⟩

theorem enc0 : enc 0 = [0] := by rw [enc_lt (by omega)]; rfl
theorem enc2 : enc 2 = [2] := by rw [enc_lt (by omega)]; rfl
theorem enc300 : enc 300 = [172, 2] := by rw [enc_ge (by omega), show 300 / 128 = 2 by rfl, enc2]; rfl
theorem put_at (w : World) (A : Option Addr) (n c : Nat) (l : List UInt8) (hln : l.length = n) (hnc : n ≤ c) (hn : n ≤ 140737488355000) (hb : Bs w A l) (m : Nat) (hm : m < 18446744073709551616) (z : List UInt8) (hz : l ++ enc m = z) (k : Nat) (hk : z.length = k) :
    Calls Tryd.prog 6 #[.slice A n c, .int .u64 m] w fun e w' => ∃ g, e = .returned (.slice (some ⟨g, 0, none⟩) k k) ∧ Bs w' (some ⟨g, 0, none⟩) z ∧ Below w.heap.size w w' := by
  refine (put_any w A n c l hln hnc hn hb m hm).mono ?_
  rintro _ w' ⟨k', g, cap, hk', rfl, hown, hb⟩
  rw [hz] at hk' hown
  obtain rfl : k' = k := by omega
  exact ⟨g, rfl, (Bs.of_own hown).2, hb⟩
theorem putText_at (w : World) (A : Option Addr) (n c : Nat) (l : List UInt8) (hln : l.length = n) (hnc : n ≤ c) (s : ByteArray) (hn : n + s.size ≤ 140737488355000) (hb : Bs w A l) (z : List UInt8) (hz : l ++ enc s.size ++ s.data.toList = z) (k : Nat) (hk : z.length = k) :
    Calls Tryd.prog 7 #[.slice A n c, .string s] w fun e w' => ∃ g, e = .returned (.slice (some ⟨g, 0, none⟩) k k) ∧ Bs w' (some ⟨g, 0, none⟩) z ∧ Below w.heap.size w w' := by
  refine (putText_any w A n c l hln hnc s hn hb).mono ?_
  rintro _ w' ⟨k', g, cap, hk', rfl, hown, hb⟩
  rw [hz] at hk' hown
  obtain rfl : k' = k := by omega
  exact ⟨g, rfl, (Bs.of_own hown).2, hb⟩

set_option maxHeartbeats 1600000 in
theorem lives_any (w : World) : Calls Tryd.prog 4 #[] w fun e w' => e = .returned (.bool true) ∧ Below w.heap.size w w' := by
  have kstr := fun (w : World) (A : Option Addr) (l : List UInt8) (h : Bs w A l) (n : Nat) (hn : l.length = n) (c : Nat) => run_str (P := Tryd.prog) h 22 9 5 Tryd.underlying22 Tryd.underlying5 Tryd.underlying9 n c hn
  go_enter Tryd.func4, Tryd.ntmps4
  have h0 := Bs.new w 5 [3, 97, 98] (0, 0)
  have b0 := (Below.refl w.heap.size w).alloc (Nat.le_refl _) (.cells (bvs [3, 97, 98]).toArray 5)
  have hg0 := getText_any _ _ 3 3 [3, 97, 98] rfl (by omega) (by omega) h0
  rw [show decT [3, 97, 98] = ([], 0, 5) by decide +kernel] at hg0
  clear h0
  go_wp2_with fail
  refine hg0.mono ?_
  rintro _ _ ⟨rfl, rfl⟩
  clear hg0
  generalize w.alloc (.cells (bvs [3, 97, 98]).toArray 5) = w1 at *
  go_wp2_with fail
  refine (put_at w1 none 0 0 [] rfl (by omega) (by omega) (Bs.nil_ _ _) 0 (by omega) [0] (by rw [enc0]; rfl) 1 rfl).mono ?_
  rintro _ w2 ⟨g2, rfl, hs2, b2⟩
  have k2 := kstr w2 _ _ hs2 1 rfl 1
  have b2 := b0.trans (b2.mono b0.size)
  clear hs2 b0
  have h7 := Bs.new w2 5 [7] (0, 0)
  have b3 := b2.alloc b2.size (.cells (bvs [7]).toArray 5)
  have hp := put_at _ _ 1 1 [7] rfl (by omega) (by omega) h7 300 (by omega) [7, 172, 2] (by rw [enc300]; rfl) 3 rfl
  clear h7
  go_wp2_with fail
  clear k2 b2
  refine hp.mono ?_
  clear hp
  rintro _ w3 ⟨g3, rfl, hs3, b4⟩
  have k3 := kstr w3 _ _ hs3 3 rfl 3
  have b4 := b3.trans (b4.mono b3.size)
  clear hs3 b3
  go_wp2_with fail
  clear k3
  refine (putText_at w3 none 0 0 [] rfl (by omega) ⟨#[97, 98]⟩ (by decide) (Bs.nil_ _ _) [2, 97, 98] (by rw [show (ByteArray.mk #[97, 98]).size = 2 by rfl, enc2]; rfl) 3 rfl).mono ?_
  rintro _ w4 ⟨g4, rfl, hs4, b5⟩
  have k4 := kstr w4 _ _ hs4 3 rfl 3
  have b5 := b4.trans (b5.mono b4.size)
  clear hs4 b4
  have h1 := Bs.new w4 5 [172, 2, 9] (0, 0)
  have c1 := b5.alloc b5.size (.cells (bvs [172, 2, 9]).toArray 5)
  have hp := got_yes _ _ 3 3 300 2 [172, 2, 9] rfl (by omega) h1 (by decide +kernel)
  clear h1
  go_wp2_with fail
  clear k4 b5
  refine hp.mono ?_
  clear hp
  rintro _ _ ⟨rfl, rfl⟩
  generalize w4.alloc (.cells (bvs [172, 2, 9]).toArray 5) = w5 at *
  have h1 := Bs.new w5 5 [172] (0, 0)
  have c2 := c1.alloc c1.size (.cells (bvs [172]).toArray 5)
  have hp := no_yes _ _ 1 1 5 [172] rfl (by omega) h1 (by decide +kernel)
  clear h1
  go_wp2_with fail
  clear c1
  refine hp.mono ?_
  clear hp
  rintro _ _ ⟨rfl, rfl⟩
  generalize w5.alloc (.cells (bvs [172]).toArray 5) = w6 at *
  have h1 := Bs.new w6 5 [128, 0] (0, 0)
  have c3 := c2.alloc c2.size (.cells (bvs [128, 0]).toArray 5)
  have hp := no_yes _ _ 2 2 4 [128, 0] rfl (by omega) h1 (by decide +kernel)
  clear h1
  go_wp2_with fail
  clear c2
  refine hp.mono ?_
  clear hp
  rintro _ _ ⟨rfl, rfl⟩
  generalize w6.alloc (.cells (bvs [128, 0]).toArray 5) = w7 at *
  have h1 := Bs.new w7 5 [0] (0, 0)
  have c4 := c3.alloc c3.size (.cells (bvs [0]).toArray 5)
  have hp := got_yes _ _ 1 1 0 1 [0] rfl (by omega) h1 (by decide +kernel)
  clear h1
  go_wp2_with fail
  clear c3
  refine hp.mono ?_
  clear hp
  rintro _ _ ⟨rfl, rfl⟩
  generalize w7.alloc (.cells (bvs [0]).toArray 5) = w8 at *
  have h1 := Bs.new w8 5 [0, 5] (0, 0)
  have c5 := c4.alloc c4.size (.cells (bvs [0, 5]).toArray 5)
  have hp := text_yes _ _ 2 2 1 [0, 5] [] rfl (by omega) (by omega) h1 (by decide +kernel)
  clear h1
  go_wp2_with fail
  clear c4
  refine hp.mono ?_
  clear hp
  rintro _ _ ⟨rfl, rfl⟩
  generalize w8.alloc (.cells (bvs [0, 5]).toArray 5) = w9 at *
  go_wp2
  go_ret
  exact ⟨rfl, c5⟩
end Go.Proofs.YtajlghnbjomnnaaDoor
