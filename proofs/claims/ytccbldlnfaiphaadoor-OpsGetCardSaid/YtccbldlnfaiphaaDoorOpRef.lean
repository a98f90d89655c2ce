/- Walks of the document's Check, plain, Put (layer 7). -/
import Derived.Test.YtccbldlnfaiphaaDoorOpG
import Derived.Test.YtccbldlnfaiphaaDoorRefPut
set_option linter.unusedSimpArgs false
set_option linter.unusedVariables false
namespace Go.Proofs.YtccbldlnfaiphaaDoor
open Go Go.RowKit Herb Herb.Cm

set_option maxRecDepth 100000 in
set_option maxHeartbeats 6400000 in
theorem refCheck_any (w : World) (kind : Nat) (br ot : ByteArray) (pl : Nat) (A : Option Addr) (n c : Nat) (cs : List Ch) (hn : cs.length = n) (hn2 : n ≤ 99999) (hb : Cs w A cs) (hbr : br.size ≤ 140737488355328) (hot : ot.size ≤ 140737488355328) :
    Calls Tryd.prog 15 #[.agg #[.int .u8 (kind : Int), .string br, .string ot, .int .u64 (pl : Int), .slice A n c]] w fun e w' => e = .returned (.int .i64 (if chk ⟨kind, br, ot, pl, cs⟩ then 0 else 1)) ∧ Below w.heap.size w w' := by
  obtain ⟨M, hM⟩ : ∃ M, chk ⟨kind, br, ot, pl, cs⟩ = M := ⟨_, rfl⟩
  rw [hM]
  unfold chk at hM
  simp only at hM
  have h0 := (Below.refl w.heap.size w).alloc (Nat.le_refl _) (.cells #[.int .u8 (kind : Int), .string br, .string ot, .int .u64 (pl : Int), .slice A n c] 26)
  have kb := Blk.new w 26 #[.int .u8 (kind : Int), .string br, .string ot, .int .u64 (pl : Int), .slice A n c]
  obtain ⟨W, hW⟩ : ∃ W, w.alloc (.cells #[.int .u8 (kind : Int), .string br, .string ot, .int .u64 (pl : Int), .slice A n c] 26) = W := ⟨_, rfl⟩
  rw [hW] at h0 kb
  have cn := fun W => refName_any W br hbr
  have cn2 := fun W => refName_any W ot hot
  obtain ⟨nb, hnb⟩ : ∃ nb, nameB br = nb := ⟨_, rfl⟩
  obtain ⟨nb2, hnb2⟩ : ∃ nb, nameB ot = nb := ⟨_, rfl⟩
  obtain ⟨al, hal⟩ : ∃ al, cs.all chB = al := ⟨_, rfl⟩
  have fz := ba_nil ot _ rfl
  obtain ⟨z, hz⟩ : ∃ z, decide (ot.size = 0) = z := ⟨_, rfl⟩
  obtain ⟨y, hy⟩ : ∃ y, decide (pl = 0) = y := ⟨_, rfl⟩
  obtain ⟨x, hx⟩ : ∃ x, decide (n = 0) = x := ⟨_, rfl⟩
  have hu1 : decide (1 ≤ n) = !x := by rw [← hx]; by_cases h : n = 0 <;> simp [h] <;> omega
  obtain ⟨u2, hu2⟩ : ∃ u, decide (n ≤ 32) = u := ⟨_, rfl⟩
  have fy : ((pl : Int) == 0) = y := by rw [← hy]; by_cases h : pl = 0 <;> simp [h]
  have fx : ((n : Int) == 0) = x := by rw [← hx]; by_cases h : n = 0 <;> simp [h]
  have f2 : decide ((n : Int) ≤ 32) = u2 := by rw [← hu2]; exact decide_eq_decide.2 (by omega)
  rw [hz] at fz
  rw [hn, hnb, hnb2, hal, hz, hy, hx, hu1, hu2] at hM
  rw [hnb] at cn
  rw [hnb2] at cn2
  clear hnb hnb2 hz hy hx hu1 hu2
  replace hn := Lib.hid hn
  replace cn := Lib.hid cn
  replace cn2 := Lib.hid cn2
  replace hM := Lib.hid hM
  replace hal := Lib.hid hal
  replace hW := Lib.hid hW
  replace fx := Lib.hid fx
  replace fy := Lib.hid fy
  replace fz := Lib.hid fz
  replace f2 := Lib.hid f2
  have cW := kb.cell
  go_enter Tryd.func15, Tryd.ntmps15
  go_wp2_with (first | rw [hW.out] | fail)
  refine (cn.out _).mono ?_
  rintro _ w1 ⟨rfl, rfl⟩
  clear cn
  go_wp2
  go_loopw [3, 4] (fun v3 v4 wr => ∃ k : Nat, k ≤ n ∧ v4 = .int .i64 (k : Int) ∧ v3 = .bool (nb && (cs.take k).all chB) ∧ Below W.heap.size W wr) (fun _ i _ => n - (intOf i).toNat)
  case atStart => exact ⟨0, by omega, rfl, by simp, Below.refl _ _⟩
  case round =>
    obtain ⟨k, hk, rfl, rfl, hbel⟩ := hrel
    clear cW
    have kr := kb.below hbel kb.lt
    have cr := kr.cell
    have hBw := h0.trans (hbel.mono h0.size)
    by_cases hlt : k < n
    · have hkl : k < cs.length := by rw [hn.out]; exact hlt
      have ht := List.take_succ_eq_append_getElem hkl
      have e2 : decide ((k : Int) < 100000) = true := decide_eq_true (by omega)
      obtain ⟨B, hB⟩ : ∃ B, (nb && (cs.take k).all chB) = B := ⟨_, rfl⟩
      obtain ⟨b, off, rfl, hblt, hc⟩ := (hb.below hBw).at_ hkl
      obtain ⟨e0, e1, e2', e3⟩ := hc k hkl
      obtain ⟨q, hq⟩ : ∃ q, cs[k] = q := ⟨_, rfl⟩
      have hnext : (nb && (cs.take (k + 1)).all chB) = (B && chB q) := by rw [ht, List.all_append, ← hB, hq, ← Bool.and_assoc]; simp
      rw [hq] at e0 e1 e2' e3
      obtain ⟨qk, qva, qki, qv⟩ := q
      simp only at e0 e1 e2' e3
      rw [hB]
      clear hc hq ht hkl
      replace hB := Lib.hid hB
      replace hnext := Lib.hid hnext
      cases B
      · go_wp2
        go_roundw
        case rel => exact ⟨k + 1, by omega, by go_num, by rw [hnext.out]; rfl, hbel⟩
        case measure => simp [intOf]; omega
      · go_wp2_with fail
        refine (refChange_any _ qk qv qva qki).mono ?_
        rintro _ w2 ⟨rfl, b2⟩
        go_wp2
        go_roundw
        case rel => exact ⟨k + 1, by omega, by go_num, by rw [hnext.out]; rfl, hbel.trans (b2.mono hbel.size)⟩
        case measure => simp [intOf]; omega
    · obtain rfl : k = n := by omega
      have e1 : decide (k < k) = false := by simp
      rw [List.take_of_length_le (by rw [hn.out]; exact Nat.le_refl _), hal.out]
      have fx := fx.out
      have fy := fy.out
      have fz := fz.out
      have f2 := f2.out
      clear hb hal hbel e1
      by_cases hk5 : 4 < kind
      · have d0 : ((kind : Int) == 0) = false := by simp; omega
        have d1 : ((kind : Int) == 1) = false := by simp; omega
        have d2 : ((kind : Int) == 2) = false := by simp; omega
        have d3 : ((kind : Int) == 3) = false := by simp; omega
        have d4 : ((kind : Int) == 4) = false := by simp; omega
        obtain rfl : M = false := by rw [← hM.out, show decide (kind ≤ 4) = false from decide_eq_false (by omega)]; rfl
        have e1 : decide (k < k) = false := by simp
        go_wp2
        go_ret
        exact ⟨rfl, hBw⟩
      have hk6 : kind = 0 ∨ kind = 1 ∨ kind = 2 ∨ kind = 3 ∨ kind = 4 := by omega
      clear hk5
      have e1 : decide (k < k) = false := by simp
      obtain ⟨B, hB⟩ : ∃ B, (nb && al) = B := ⟨_, rfl⟩
      rw [hB]
      rcases hk6 with rfl | rfl | rfl | rfl | rfl
      · have hM2 : (B && z && y && !x && u2) = M := by rw [← hM.out, ← hB]; simp only [two, many, trim]; clear hM hB e1 fx fy fz f2 cr kr hBw cn2 kb h0; cases nb <;> cases al <;> cases z <;> cases y <;> cases x <;> cases nb2 <;> cases u2 <;> rfl
        replace hM2 := Lib.hid hM2
        clear hM hB
        cases B <;> cases z <;> cases y <;> cases x <;> cases u2
        all_goals
          cases M
          all_goals first
            | (have h := hM2.out; cases h; done)
            | (clear hM2; go_wp2; go_ret; exact ⟨rfl, hBw⟩)
      · have hM2 : (B && nb2 && y && x) = M := by rw [← hM.out, ← hB]; simp only [two, many, trim]; clear hM hB e1 fx fy fz f2 cr kr hBw cn2 kb h0; cases nb <;> cases al <;> cases z <;> cases y <;> cases x <;> cases nb2 <;> cases u2 <;> rfl
        replace hM2 := Lib.hid hM2
        clear hM hB
        cases B
        · obtain rfl : M = false := by rw [← hM2.out]; rfl
          go_wp2
          go_ret
          exact ⟨rfl, hBw⟩
        go_wp2_with fail
        refine (cn2.out _).mono ?_
        rintro _ w2 ⟨rfl, rfl⟩
        cases nb2 <;> cases y <;> cases x
        all_goals
          cases M
          all_goals first
            | (have h := hM2.out; cases h; done)
            | (clear hM2; go_wp2; go_ret; exact ⟨rfl, hBw⟩)
      · have hM2 : (B && z && y && x) = M := by rw [← hM.out, ← hB]; simp only [two, many, trim]; clear hM hB e1 fx fy fz f2 cr kr hBw cn2 kb h0; cases nb <;> cases al <;> cases z <;> cases y <;> cases x <;> cases nb2 <;> cases u2 <;> rfl
        replace hM2 := Lib.hid hM2
        clear hM hB
        cases B <;> cases z <;> cases y <;> cases x
        all_goals
          cases M
          all_goals first
            | (have h := hM2.out; cases h; done)
            | (clear hM2; go_wp2; go_ret; exact ⟨rfl, hBw⟩)
      · have hM2 : (B && nb2 && y) = M := by rw [← hM.out, ← hB]; simp only [two, many, trim]; clear hM hB e1 fx fy fz f2 cr kr hBw cn2 kb h0; cases nb <;> cases al <;> cases z <;> cases y <;> cases x <;> cases nb2 <;> cases u2 <;> rfl
        replace hM2 := Lib.hid hM2
        clear hM hB
        cases B
        · obtain rfl : M = false := by rw [← hM2.out]; rfl
          go_wp2
          go_ret
          exact ⟨rfl, hBw⟩
        go_wp2_with fail
        refine (cn2.out _).mono ?_
        rintro _ w2 ⟨rfl, rfl⟩
        cases nb2 <;> cases y
        all_goals
          cases M
          all_goals first
            | (have h := hM2.out; cases h; done)
            | (clear hM2; go_wp2; go_ret; exact ⟨rfl, hBw⟩)
      · have hM2 : (B && z && x) = M := by rw [← hM.out, ← hB]; simp only [two, many, trim]; clear hM hB e1 fx fy fz f2 cr kr hBw cn2 kb h0; cases nb <;> cases al <;> cases z <;> cases y <;> cases x <;> cases nb2 <;> cases u2 <;> rfl
        replace hM2 := Lib.hid hM2
        clear hM hB
        cases B <;> cases z <;> cases x
        all_goals
          cases M
          all_goals first
            | (have h := hM2.out; cases h; done)
            | (clear hM2; go_wp2; go_ret; exact ⟨rfl, hBw⟩)
end Go.Proofs.YtccbldlnfaiphaaDoor
