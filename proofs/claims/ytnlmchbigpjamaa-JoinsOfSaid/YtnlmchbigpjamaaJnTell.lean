/- The walks of tell, and of slices.Collect over it. -/
import Derived.Test.YtnlmchbigpjamaaJnMem
import Derived.Test.YtnlmchbigpjamaaJnSeq
import Derived.Test.YtnlmchbigpjamaaRoundF
import Derived.Test.YtnlmchbigpjamaaBlkOps
import Derived.RangeFuncNested
import Derived.RangeFuncBound
import Derived.RangeFuncCalls
import Derived.RangeFuncLeaves
import Derived.RangeFuncBox
import Derived.Shelf.Abstract
import Derived.Shelf.RegionOpen
import Derived.WalkKit
import Derived.OwnWalkIn
import Derived.TacticsInMore
import Derived.LoopNIn
import Derived.LoopIn
set_option linter.unusedSimpArgs false
set_option linter.unusedVariables false
namespace Herb
open Go Go.RowKit
theorem room_none {F : Fence} (hd : F.depth = none) (k : Nat) : F.room k := fun d h => by rw [hd] at h; cases h
theorem RoundIn.deep {F : Fence} (hd : F.depth = none) {m m' : Nat} {P : Program} {l : Nat} {f : FuncId} {tmps : Array Value} {assign body : Code} {w : World} {R : Ending → World → Prop}
    (h : RoundIn F m P l f tmps assign body w R) : RoundIn F m' P l f tmps assign body w R := ⟨h.1, fun c cs _ => h.2 c cs (room_none hd _)⟩
theorem YieldAt.deep {F : Fence} (hd : F.depth = none) {m : Nat} (m' : Nat) {P : Program} {l : Nat} {args : Array Value} {W : World} {R : Ending → World → Prop} (h : YieldAt F m P l args W R) : YieldAt F m' P l args W R := by
  obtain ⟨fn, tmps, assign, body, hy, hR⟩ := h
  exact ⟨fn, tmps, assign, body, hy, RoundIn.deep hd hR⟩
/-- How a fact comes. -/
def EncF (f : Ft) (vs : Array Value) (_ : World) : Prop := vs = #[f.val]
end Herb
namespace Go.Proofs.Ytnlmchbigpjamaa
open Go Go.RowKit Go.Shelf Herb Herb.Jn
attribute [local go_sem] Oper.semAt_some
/-- The counter's block. -/
def Cnt (C : Nat) (W : World) : Prop := ∃ z : Int, Blk W C 3 #[.int .i64 z]
theorem Cnt.keep {C : Nat} (X Y : World) (h : Cnt C X) (hk : KeepBut (fun k => k ≠ C) X Y) : Cnt C Y := by
  obtain ⟨z, hz⟩ := h
  exact ⟨z, hk.blk hz (fun e => e rfl)⟩
theorem Rd.but_lt {w w' : World} {A : Option Addr} {size n C : Nat} {xs : List Value} (h : Rd w size A n xs) (hC : ∀ a, A = some a → 0 < n → a.block ≠ C) (hk : KeepBut (fun k => k = C ∨ w.heap.size ≤ k) w w') : Rd w' size A n xs := by
  refine ⟨h.1, fun hn => ?_⟩
  obtain ⟨b, off, rfl, hb, hc⟩ := h.2 hn
  refine ⟨b, off, rfl, Nat.lt_of_lt_of_le hb hk.size, fun j u hu => ?_⟩
  have hne : b ≠ C := hC _ rfl hn
  have hbl := hk.block b hb (fun e => by rcases e with e | e <;> omega)
  rw [← hc j u hu]
  unfold World.cell?
  rw [hbl]
set_option maxRecDepth 100000 in
set_option maxHeartbeats 1600000 in
theorem tell_seq (n : Nat) (w0 : World) (A : Option Addr) (m c : Nat) (fs : List Ft) (C : Nat) (hm : fs.length = m) (hm2 : m ≤ 1000000) (hfs : Fs w0 A fs) (hAC : ∀ a, A = some a → 0 < m → a.block ≠ C) (hCw : C < w0.heap.size) :
    SeqM Fence.wide n Try.prog 10 #[.agg #[.slice A m c, .pointer (some ⟨C, 0, none⟩)]] #[] EncF C (Cnt C) fs w0 := by
  intro l J Jx W hl hk0 hc hJ hJx hY h0
  obtain ⟨z, hz⟩ := hc
  have hbx := Blk.new W 30 #[.slice A m c, .pointer (some ⟨C, 0, none⟩)]
  obtain ⟨W0, hW0⟩ : ∃ W0, W.alloc (.cells #[.slice A m c, .pointer (some ⟨C, 0, none⟩)] 30) = W0 := ⟨_, rfl⟩
  have hs0 : W0.heap.size = W.heap.size + 1 := by rw [← hW0]; simp
  have k0 : KeepBut (fun k => k = C) W W0 := by rw [← hW0]; exact (KeepBut.refl W).alloc _
  have hz0 : Blk W0 C 3 #[.int .i64 z] := by rw [← hW0]; exact hz.alloc _
  rw [hW0] at hbx
  have hne : W.heap.size ≠ C := by have := hz.lt; omega
  have hne' : C ≠ W.heap.size := fun e => hne e.symm
  have cx := hbx.cell
  have cz := hz0.cell
  have fz := hz0.frozen
  obtain ⟨W1, hW1⟩ : ∃ W1, (W0.setCell ⟨C, 0, none⟩ (.int .i64 (wrap64 (z + 1)))).drew = W1 := ⟨_, rfl⟩
  have hz1 : Cnt C W1 := ⟨wrap64 (z + 1), by rw [← hW1]; exact hz0.store 0 _⟩
  have hb1 : Blk W1 W.heap.size 30 #[.slice A m c, .pointer (some ⟨C, 0, none⟩)] := by rw [← hW1]; exact hbx.far (p := ⟨C, 0, none⟩) hne _
  have k1 : KeepBut (fun k => k = C) W W1 := by rw [← hW1]; exact (k0.setCell (S := fun k => k = C) (p := ⟨C, 0, none⟩) rfl _).drew
  have hs1 : W.heap.size + 1 ≤ W1.heap.size := by have := hb1.lt; omega
  have hJ1 := h0 (W.heap.size + 1) W1 (by omega) hs1 k1
  have hk1 : KeepBut (fun k => k = C ∨ w0.heap.size ≤ k) w0 W1 := hk0.trans (k1.weak (fun k _ e => .inl e))
  have hw0 := hk0.size
  clear h0 k0 hz hbx k1 hJx
  replace hW0 := Lib.hid hW0
  replace hW1 := Lib.hid hW1
  replace hm := Lib.hid hm
  refine callsIn_of_wp Try.func10 rfl trivial ?_ rfl
  simp only [Try.ntmps10, List.size_toArray, List.length_cons, List.length_nil, Nat.reduceAdd, Nat.reduceSub, Array.replicate_succ, Array.replicate_zero, List.push_toArray, List.append_toArray, List.nil_append, List.cons_append]
  gi_wp2_with (first | rw [hW0.out] | fail)
  gi_region
  rw [hW1.out]
  gi_wp2
  gi_loopw [4] (fun i wr => ∃ k : Nat, k ≤ m ∧ i = .int .i64 (k : Int) ∧ J (W.heap.size + 1) (fs.take k) wr ∧ Cnt C wr ∧ Blk wr W.heap.size 30 #[.slice A m c, .pointer (some ⟨C, 0, none⟩)] ∧ KeepBut (fun k => k = C ∨ w0.heap.size ≤ k) w0 wr ∧ W.heap.size + 1 ≤ wr.heap.size) (fun i _ => m - (intOf i).toNat)
  case atStart => exact ⟨0, by omega, rfl, by simpa using hJ1, hz1, hb1, hk1, hs1⟩
  case round =>
    clear hJ1 hz1 hb1 hk1 hs1 cx cz fz
    obtain ⟨k, hk, rfl, hj, hz2, hb2, hk2, hs2⟩ := hrel
    have cx := hb2.cell
    by_cases hlt : k < m
    · have hlk : k < fs.length := by rw [hm.out]; exact hlt
      have hf2 : Fs wr A fs := by
        have h := hfs
        unfold Fs at h ⊢
        exact Rd.but_lt h (fun a ha hn => by
          have := hAC a ha (by rw [← hm.out]; exact hn)
          exact this) hk2
      obtain ⟨b, o, rfl, _, hcc⟩ := hf2.at_ hlk
      have hc0 := hcc k hlk
      obtain ⟨f, hf⟩ : ∃ f, fs[k] = f := ⟨_, rfl⟩
      rw [hf] at hc0
      have htk : fs.take (k + 1) = fs.take k ++ [f] := by rw [← hf, List.take_succ_eq_append_getElem hlk]
      have hpx : fs.take k ++ [f] <+: fs := by rw [← htk]; exact List.take_prefix _ _
      have hyy := YieldAt.deep rfl (n - 1) (hY (W.heap.size + 1) (fs.take k) f #[f.val] wr (by omega) hj hpx rfl)
      obtain ⟨fn, tmps, assign, body, hy, hRd⟩ := hyy
      obtain ⟨xk, xva, xse, xli, xki, xv⟩ := f
      simp only at hc0
      have hdk : decide (k < m) = true := by simpa using hlt
      have hkk : (0 : Int) ≤ (k : Int) ∧ (k : Int) < (m : Int) := by omega
      replace htk := Lib.hid htk
      replace hf := Lib.hid hf
      replace hpx := Lib.hid hpx
      clear hcc hf
      replace hlk := Lib.hid hlk
      gi_wp2
      refine ⟨fun h => (by cases h), hRd.mono ?_⟩
      rintro e W3 (⟨rfl, hJ3, hk3⟩ | ⟨rfl, hJx3, hk3⟩)
      · have hz3 : Cnt C W3 := hz2.keep _ _ (hk3.weak (fun k _ e => by have := e.1; omega))
        have hb3 := hk3.blk hb2 (fun e => e.2 ⟨by omega, by omega⟩)
        have hk4 := hk2.trans (hk3.weak (S' := fun k => k = C ∨ w0.heap.size ≤ k) (fun k _ e => .inr e.1))
        have hs4 := Nat.le_trans hs2 hk3.size
        clear hy hRd hc0 cx hz2 hb2 hk2 hs2 hj
        gi_wp2
        go_roundw
        case rel => exact ⟨k + 1, by omega, by go_num, by rw [htk.out]; exact hJ3, hz3, hb3, hk4, hs4⟩
        case measure => simp [intOf]; omega
      · have hz3 : Cnt C W3 := hz2.keep _ _ (hk3.weak (fun k _ e => by have := e.1; omega))
        clear hy hRd hc0 cx hz2 hb2 hk2 hs2 hj
        gi_wp2
        refine bodyPost_ret (results_none rfl _ _ _) rfl ?_
        exact ⟨⟨_, rfl⟩, hz3, .inr ⟨_, _, hpx.out, hJx3⟩⟩
    · obtain rfl : k = m := by omega
      have hdk : decide (k < k) = false := by simp
      rw [List.take_of_length_le (by rw [hm.out]; exact Nat.le_refl _)] at hj
      gi_wp2
      go_end0
      exact ⟨⟨_, rfl⟩, hz2, .inl ⟨_, hj⟩⟩
end Go.Proofs.Ytnlmchbigpjamaa
