/- The walk of skips' Put, a key more. -/
import Derived.Test.YtidnhcningkcaaaDoorSkPut
import Derived.Test.YtidnhcningkcaaaDoorStill
import Derived.Deep.RegionHeld3
import Derived.Deep.MidRow
import Derived.IntWalk
import Derived.RangeFuncBox
set_option linter.unusedSimpArgs false
set_option linter.unusedVariables false
namespace Herb
open Go Go.RowKit
theorem KeyAt.store {w : World} {tb t : TypeId} {A : Option Addr} {l : List UInt8} (h : KeyAt w tb A l) {p : Addr} {cs : Array Value} {fr : Nat × Nat} (hp : w.heap[p.block]? = some (.cells cs t fr)) (hne : t ≠ tb) (u : Value) : KeyAt (w.setCell p u) tb A l :=
  h.keep (S := fun k => k = p.block) (KeepBut.setCell (p := p) (S := fun k => k = p.block) (KeepBut.refl w) rfl u) (fun k cs' fr' hk e => by
    rw [e, hp] at hk
    injection hk with hk
    injection hk with _ ht
    exact hne ht)
/-- The new node's cells. -/
def newCells (K : List UInt8) (x : Int) (A : Option Addr) (n c : Nat) (nx : List Nat) : List Value := .slice A n c :: .int .i64 x :: nx.map (fun (k : Nat) => .int .i64 (k : Int))
theorem newCells_set (K : List UInt8) (x : Int) (A : Option Addr) (n c : Nat) (nx : List Nat) (f v : Nat) : (newCells K x A n c nx).toArray.setIfInBounds (2 + f) (.int .i64 (v : Int)) = (newCells K x A n c (nx.set f v)).toArray := by
  rw [List.setIfInBounds_toArray]
  congr 1
  unfold newCells
  rw [show 2 + f = f + 1 + 1 by omega, List.set_cons_succ, List.set_cons_succ, List.map_set]
theorem newCells_get (K : List UInt8) (x : Int) (A : Option Addr) (n c : Nat) (nx : List Nat) (f : Nat) (hf : f < nx.length) : (newCells K x A n c nx).toArray[2 + f]? = some (.int .i64 (nx.getD f 0 : Int)) := by
  unfold newCells
  rw [List.getElem?_toArray, show 2 + f = f + 1 + 1 by omega, List.getElem?_cons_succ, List.getElem?_cons_succ, List.getElem?_map]
  simp [List.getD, hf]
theorem eight {l : List Nat} (h : l.length = 8) : ∃ a b c d e f g i, l = [a, b, c, d, e, f, g, i] := by
  match l, h with
  | [a, b, c, d, e, f, g, i], _ => exact ⟨a, b, c, d, e, f, g, i, rfl⟩
theorem newCells_one (K : List UInt8) (x : Int) (A : Option Addr) (n c : Nat) (nx : List Nat) : (newCells K x A n c nx).toArray.all (·.oneCell') = true := by
  rw [Array.all_eq_true_iff_forall_mem]
  intro v hv
  simp only [newCells, List.mem_toArray, List.mem_cons, List.mem_map] at hv
  rcases hv with rfl | rfl | ⟨k, _, rfl⟩ <;> rfl
end Herb
namespace Go.Proofs.YtidnhcningkcaaaDoor
open Go Go.RowKit Herb
theorem infoN : (Tryd.prog.info? 54).map (fun i => (i.zero, i.size, i.bytes)) = some (some (.agg #[.slice none 0 0, .int .i64 0, .int .i64 0, .int .i64 0, .int .i64 0, .int .i64 0, .int .i64 0, .int .i64 0, .int .i64 0, .int .i64 0]), 10, 96) := by kernel_rfl
theorem node_size : (Tryd.prog.info? 54).map (·.size) = some 10 := by kernel_rfl
set_option maxRecDepth 100000 in
set_option maxHeartbeats 1600000 in
theorem put_new (w : World) (base p g cap : Nat) (N : List Nd) (L : List Nat) (h : Nat → Nat) (I : Inv N L h) (hS : SkAt w base p g cap N) (M : Nat) (hM : N.length = M) (hM2 : M ≤ 1000000) (K : List UInt8) (A : Option Addr) (n c : Nat) (hn : K.length = n) (hn2 : n ≤ 140737488355328) (hb : Bs w A K) (x : Int) (H : Nat) (hH1 : 1 ≤ H) (hH8 : H ≤ 8)
    (hh : hasM (toldL N L) K = false) :
    Calls Tryd.prog 8 #[.pointer (some ⟨p, 0, none⟩), .slice A n c, .int .i64 x, .int .i64 (H : Int)] w fun e w' => ∃ g' cap' A' c', e = .returned (.int .i64 0) ∧ SkAt w' base p g' cap' (insN N (topOf N L h K) H ⟨K, x, A', c', []⟩) ∧ KeepBut (fun k => k = p ∨ k = g) w w' ∧ (g' = g ∨ w.heap.size ≤ g') ∧ (∀ a, A' = some a → w.heap.size ≤ a.block) := by
  have ht := there_yes w base p g cap N hS (by have := I.len; omega)
  have ha := ahead_any w base p g cap N L h I hS M hM hM2 K A n c hn hb
  have hTM : ∀ f, topOf N L h K f < M := fun f => by rw [← hM]; exact I.top_lt K f
  have hnx : nxOf N 0 (topOf N L h K 0) = (restL N L K).headD 0 := by
    have hc := I.floor K 0 (by omega)
    obtain ⟨X, hX⟩ := split_last (onFloor h 0 (aheadL N L K))
    rw [hX, List.append_assoc] at hc
    have := Chain.mid hc
    have e : onFloor h 0 (restL N L K) = restL N L K := by
      unfold onFloor
      rw [List.filter_eq_self]
      intro i hi
      simpa using I.high i (rest_mem hi)
    rw [e] at this
    exact this
  have hins := I.ins K H hH1 hH8
  obtain ⟨T, hT⟩ : ∃ T, topOf N L h K = T := ⟨_, rfl⟩
  rw [hT] at ha hTM hnx hins ⊢
  rw [tow_lit] at ha
  rw [hasM_head I] at hh
  have hcx := fun W (hW : Below w.heap.size w W) => (hS.below hW).cellNx I.ok8 (show T 0 < N.length by have := hTM 0; omega) (show 0 < 8 by omega)
  rw [hnx] at hcx
  have hbx := fun W (hW : Below w.heap.size w W) => (hS.below hW).box.cell 0
  rw [hM] at hbx
  have d1 : decide ((H : Int) < 1) = false := decide_eq_false (by omega)
  have d2 : decide (8 < (H : Int)) = false := decide_eq_false (by omega)
  have hT0M := hTM 0
  replace ha := Lib.hid ha
  replace hn := Lib.hid hn
  replace hM := Lib.hid hM
  replace hT := Lib.hid hT
  replace hnx := Lib.hid hnx
  replace hcx := Lib.hid hcx
  replace hbx := Lib.hid hbx
  replace hTM := Lib.hid hTM
  rcases hr : restL N L K with _ | ⟨b, R⟩
  · go_enter Tryd.func8, Tryd.ntmps8
    rw [hr] at hcx
    simp only [List.headD_nil] at hcx
    replace hr := Lib.hid hr
    clear hh
    go_wp2_with fail
    refine ht.mono ?_
    clear ht
    rintro _ _ ⟨rfl, rfl⟩
    go_wp2_with fail
    refine ha.out.mono ?_
    clear ha
    rintro _ w1 ⟨rfl, b1⟩
    have kt : Blk (w1.alloc (.cells #[.int .i64 (T 0 : Int), .int .i64 (T 1 : Int), .int .i64 (T 2 : Int), .int .i64 (T 3 : Int), .int .i64 (T 4 : Int), .int .i64 (T 5 : Int), .int .i64 (T 6 : Int), .int .i64 (T 7 : Int)] 51)) w1.heap.size 51 #[.int .i64 (T 0 : Int), .int .i64 (T 1 : Int), .int .i64 (T 2 : Int), .int .i64 (T 3 : Int), .int .i64 (T 4 : Int), .int .i64 (T 5 : Int), .int .i64 (T 6 : Int), .int .i64 (T 7 : Int)] := Blk.new w1 _ _
    have b2 := b1.alloc b1.size (.cells #[.int .i64 (T 0 : Int), .int .i64 (T 1 : Int), .int .i64 (T 2 : Int), .int .i64 (T 3 : Int), .int .i64 (T 4 : Int), .int .i64 (T 5 : Int), .int .i64 (T 6 : Int), .int .i64 (T 7 : Int)] 51)
    have htlt : w.heap.size ≤ w1.heap.size := b1.size
    go_wp2_with fail
    generalize w1.alloc (.cells #[.int .i64 (T 0 : Int), .int .i64 (T 1 : Int), .int .i64 (T 2 : Int), .int .i64 (T 3 : Int), .int .i64 (T 4 : Int), .int .i64 (T 5 : Int), .int .i64 (T 6 : Int), .int .i64 (T 7 : Int)] 51) = w2 at *
    have c1 := kt.cell 0
    have c2 := hcx.out _ b2
    have c3 := hbx.out _ b2
    go_quiet (fail)
    rename_i nq
    have b3 := below_drewN b2 nq
    replace kt := kt.drewN nq
    go_wp2_with fail
    generalize w2.drewN nq = W0 at *
    generalize w1.heap.size = tw at *
    have pc := fun W (hW : Below w.heap.size w W) => clone_bs W A n c K hn.out hn2 (hb.below hW)
    replace pc := Lib.hid pc
    clear c1 c2 c3 b1 b2
    have hfol : Tryd.prog.follows .mixedOrders = true := by kernel_rfl
    have hS0 : Below w.heap.size w W0.drew := b3.drew
    refine wp_region_held (S := fun W => Below w.heap.size w W) hfol ?_
    refine wpAnyH_take (i := 0) (v := .slice A n c) rfl (by kernel_rfl) (by kernel_rfl) (by kernel_rfl) (fun _ _ _ h => h) (.inl ⟨by rfl, fun W hW => by go_simp⟩) hS0 ?_
    try dsimp only [Act.put]
    try simp only [List.setIfInBounds_toArray, List.set_cons_zero, List.set_cons_succ]
    refine wpAnyH_take (i := 2) (v := .int .i64 x) rfl (by kernel_rfl) (by kernel_rfl) (by kernel_rfl) (fun _ _ _ h => h) (.inl ⟨by rfl, fun W hW => by go_simp⟩) hS0 ?_
    try dsimp only [Act.put]
    try simp only [List.setIfInBounds_toArray, List.set_cons_zero, List.set_cons_succ]
    refine wpAnyH_take (i := 4) (v := .pointer (some ⟨p, 0, none⟩)) rfl (by kernel_rfl) (by kernel_rfl) (by kernel_rfl) (fun _ _ _ h => h) (.inl ⟨by rfl, fun W hW => by go_simp⟩) hS0 ?_
    try dsimp only [Act.put]
    try simp only [List.setIfInBounds_toArray, List.set_cons_zero, List.set_cons_succ]
    refine wpAnyH_take (i := 5) (v := .pointer (some ⟨p, 0, none⟩)) rfl (by kernel_rfl) (by kernel_rfl) (by kernel_rfl) (fun _ _ _ h => h) (.inl ⟨by rfl, fun W hW => by go_simp⟩) hS0 ?_
    try dsimp only [Act.put]
    try simp only [List.setIfInBounds_toArray, List.set_cons_zero, List.set_cons_succ]
    refine wpAnyH_take (i := 6) (v := .pointer (some ⟨p, 0, none⟩)) rfl (by kernel_rfl) (by kernel_rfl) (by kernel_rfl) (fun _ _ _ h => h) (.inl ⟨by rfl, fun W hW => by go_simp⟩) hS0 ?_
    try dsimp only [Act.put]
    try simp only [List.setIfInBounds_toArray, List.set_cons_zero, List.set_cons_succ]
    refine wpAnyH_take (i := 7) (v := .slice (some ⟨g, 0, none⟩) M cap) rfl (by kernel_rfl) (by kernel_rfl) (by kernel_rfl) (fun _ _ _ h => h) (.inl ⟨by rfl, fun W hW => by have := hbx.out W hW; go_simp⟩) hS0 ?_
    try dsimp only [Act.put]
    try simp only [List.setIfInBounds_toArray, List.set_cons_zero, List.set_cons_succ]
    refine wpAnyH_take (i := 8) (v := .int .i64 (M : Int)) rfl (by kernel_rfl) (by kernel_rfl) (by kernel_rfl) (fun _ _ _ h => h) (.inl ⟨by rfl, fun W hW => by go_simp⟩) hS0 ?_
    try dsimp only [Act.put]
    try simp only [List.setIfInBounds_toArray, List.set_cons_zero, List.set_cons_succ]
    refine wpAnyH_ready (rs := [1, 9]) (by kernel_rfl) (by simp) (AllReadyH.cons rfl (fun K' hK => ?_) (AllReadyH.cons rfl (fun K' hK => ?_) AllReadyH.nil))
    · go_simp
      go_at_call 20
      refine (pc.out _ hS0).mono ?_
      rintro _ w4 ⟨A', c', rfl, hown, b4⟩
      have hA0 : Hid (∀ a, A' = some a → w.heap.size ≤ a.block) := Lib.hid (fun a e => by
        rcases hown.2 with ⟨h, _⟩ | ⟨g1, _, _, h, hb1, _⟩
        · rw [e] at h; cases h
        · rw [e] at h; cases h; first | exact Nat.le_trans hS0.size hb1 | exact Nat.le_trans hS1.size hb1)
      have b5 := hS0.trans (b4.mono hS0.size)
      refine hK.out _ _ b5 (fun _ => ?_)
      clear hK K'
      try dsimp only [Act.put]
      try simp only [List.setIfInBounds_toArray, List.set_cons_zero, List.set_cons_succ]
      refine wpAnyH_take (i := 3) (v := .agg #[.slice A' n c', .int .i64 x, .int .i64 0, .int .i64 0, .int .i64 0, .int .i64 0, .int .i64 0, .int .i64 0, .int .i64 0, .int .i64 0]) rfl (by kernel_rfl) (by kernel_rfl) (by kernel_rfl) (fun _ _ _ h => h) (.inl ⟨by rfl, fun W hW => by go_simp⟩) b5 ?_
      try dsimp only [Act.put]
      try simp only [List.setIfInBounds_toArray, List.set_cons_zero, List.set_cons_succ]
      refine wpAnyH_ready (rs := [9]) (by kernel_rfl) (by simp) (AllReadyH.cons rfl (fun K' hK => ?_) AllReadyH.nil)
      go_simp
      refine hK.out _ _ (b5.alloc b5.size _) (fun hS1 => ?_)
      clear hK K'
      try dsimp only [Act.put]
      try simp only [List.setIfInBounds_toArray, List.set_cons_zero, List.set_cons_succ]
      have kx : Blk (w4.alloc (.cells #[.slice none 0 0, .int .i64 0, .int .i64 0, .int .i64 0, .int .i64 0, .int .i64 0, .int .i64 0, .int .i64 0, .int .i64 0, .int .i64 0] 54)) w4.heap.size 54 #[.slice none 0 0, .int .i64 0, .int .i64 0, .int .i64 0, .int .i64 0, .int .i64 0, .int .i64 0, .int .i64 0, .int .i64 0, .int .i64 0] := Blk.new w4 _ _
      refine wpAnyH_ready (rs := [10]) (by kernel_rfl) (by simp) (AllReadyH.cons rfl (fun K' hK => ?_) AllReadyH.nil)
      rw [if_pos (by rfl)]
      refine wp_store_row 54 _ _ rfl w4.heap.size (newCells K x A' n c' (List.replicate 8 0)).toArray rfl rfl _ _ kx (by kernel_rfl) rfl (newCells_one _ _ _ _ _ _) ?_
      refine hK.out _ _ (below_setRow' hS1 b5.size _) (fun hS2 => ?_)
      clear hK K'
      try dsimp only [Act.put]
      try simp only [List.setIfInBounds_toArray, List.set_cons_zero, List.set_cons_succ]
      refine wpAnyH_take (i := 11) (v := .int .i64 (M : Int)) rfl (by kernel_rfl) (by kernel_rfl) (by kernel_rfl) (fun _ _ _ h => h) (.inl ⟨by rfl, fun W hW => by go_simp⟩) hS2 ?_
      try dsimp only [Act.put]
      try simp only [List.setIfInBounds_toArray, List.set_cons_zero, List.set_cons_succ]
      refine wpAnyH_done (by kernel_rfl) ?_ _
      have q45 := below_setRow' (g := w4.heap.size) ((Below.refl w4.heap.size w4).alloc (Nat.le_refl _) (.cells #[.slice none 0 0, .int .i64 0, .int .i64 0, .int .i64 0, .int .i64 0, .int .i64 0, .int .i64 0, .int .i64 0, .int .i64 0, .int .i64 0] 54)) (Nat.le_refl _) (newCells K x A' n c' (List.replicate 8 0)).toArray
      have q05 : Below W0.heap.size W0 _ := ((Below.refl W0.heap.size W0).drew.trans b4).trans (q45.mono b4.size)
      replace kx := kx.setRow (newCells K x A' n c' (List.replicate 8 0)).toArray
      have hk := (own_keyAt hown).keep (S := fun _ => False) (KeepBut.of_below q45) (fun _ _ _ _ e => e)
      replace kt := kt.below q05 kt.lt
      have hXw := b5.size
      obtain ⟨X, hX⟩ : ∃ X, w4.heap.size = X := ⟨_, rfl⟩
      rw [hX] at kx hk kt hS2 hXw ⊢
      clear q45 q05 hX hS1 b5 b4 hown hS0
      generalize (w4.alloc (.cells #[.slice none 0 0, .int .i64 0, .int .i64 0, .int .i64 0, .int .i64 0, .int .i64 0, .int .i64 0, .int .i64 0, .int .i64 0, .int .i64 0] 54)).setRow X (newCells K x A' n c' (List.replicate 8 0)).toArray = W5 at *
      clear hcx hbx pc hfol hnx hr
      have hfol : Tryd.prog.follows .mixedOrders = true := by kernel_rfl
      have hgX : g ≠ X := by have := hS.lt.2; omega
      have hpX : p ≠ X := by have := hS.lt.1; omega
      have htX : tw ≠ X := kt.ne_ kx (by decide)
      have htg : tw ≠ g := by have := hS.lt.2; omega
      have htp : tw ≠ p := by have := hS.lt.1; omega
      have hkb5 : KeepBut (fun b => b = g) w W5 := KeepBut.of_below hS2
      have hs5 : SkAt W5 base p g cap (stepN N T M 0) := hS.below hS2
      replace kx : Blk W5 X 54 (newCells K x A' n c' (newNx N T 0)).toArray := kx
      have h8N := I.ok8
      have hTM' := hTM.out
      have hTN : ∀ f, T f < N.length := fun f => by rw [hM.out]; exact hTM' f
      replace hTN := Lib.hid hTN
      clear hTM' hS2 b3
      go_wp2
      go_loopw [62] (fun i wr => ∃ k : Nat, k ≤ H ∧ i = .int .i64 (k : Int) ∧ SkAt wr base p g cap (stepN N T M k) ∧ Blk wr tw 51 #[.int .i64 (T 0 : Int), .int .i64 (T 1 : Int), .int .i64 (T 2 : Int), .int .i64 (T 3 : Int), .int .i64 (T 4 : Int), .int .i64 (T 5 : Int), .int .i64 (T 6 : Int), .int .i64 (T 7 : Int)] ∧ Blk wr X 54 (newCells K x A' n c' (newNx N T k)).toArray ∧ KeyAt wr 5 A' K ∧ KeepBut (fun b => b = g) w wr) (fun i _ => H - (intOf i).toNat)
      case atStart => exact ⟨0, by omega, rfl, hs5, kt, kx, hk, hkb5⟩
      case round =>
        clear hs5 kt kx hk hkb5
        obtain ⟨k, hkH, rfl, hs, kt, kx, hk, hkb⟩ := hrel
        have hlen : (stepN N T M k).length = M := by rw [stepN_length]; exact hM.out
        have h8k := stepN_ok h8N T M k
        have hbx := hs.box.cell 0
        rw [hlen] at hbx
        by_cases hlt : k < H
        · have hk8 : k < 8 := by omega
          have hTk := hTM.out k
          have hct := kt.cell k
          rw [← tow_lit, List.getElem?_toArray, towL_get _ _ _ hk8, if_pos (by omega)] at hct
          have hcx := hs.cellNx h8k (show T k < (stepN N T M k).length by rw [hlen]; exact hTk) hk8
          rw [stepN_nx hTN.out h8N k (by omega), if_neg (by omega)] at hcx
          obtain ⟨v, hv⟩ : ∃ v, nxOf N k (T k) = v := ⟨_, rfl⟩
          rw [hv] at hcx
          have hxc := kx.cell (2 + k)
          rw [newCells_get _ _ _ _ _ _ _ (by rw [newNx_length]; exact hk8)] at hxc
          have hxf := kx.frozen (2 + k)
          have kx' := kx.store (2 + k) (.int .i64 (v : Int))
          rw [newCells_set, ← hv] at kx'
          replace kx' : Blk (wr.setCell ⟨X, 2 + k, none⟩ (.int .i64 (v : Int))) X 54 (newCells K x A' n c' (newNx N T (k + 1))).toArray := by rw [← hv]; exact kx'
          have hkpX : KeepBut (fun b => b = X) wr (wr.setCell ⟨X, 2 + k, none⟩ (.int .i64 (v : Int))) := KeepBut.set_at wr X (2 + k) _
          have hs' := hs.keep hkpX hpX hgX (fun b cs fr hc e => by
            rw [e, kx] at hc
            injection hc with hc
            injection hc with _ ht
            exact absurd ht (by decide))
          have hk' := hk.store (p := ⟨X, 2 + k, none⟩) kx (by decide) (.int .i64 (v : Int))
          have kt' := kt.far (p := ⟨X, 2 + k, none⟩) htX (.int .i64 (v : Int))
          have hkb' := KeepBut.setCell_new (p := ⟨X, 2 + k, none⟩) hkb hXw (.int .i64 (v : Int))
          have hct' := kt'.cell k
          rw [← tow_lit, List.getElem?_toArray, towL_get _ _ _ hk8, if_pos (by omega)] at hct'
          have hcx' := hs'.cellNx h8k (show T k < (stepN N T M k).length by rw [hlen]; exact hTk) hk8
          have hcf' := hs'.row.frozenAt (T k * 10 + 2 + k)
          have hbx' := hs'.box.cell 0
          rw [hlen] at hbx'
          have hs2 := hs'.setNx h8k (show T k < (stepN N T M k).length by rw [hlen]; exact hTk) hk8 M
          have hk2 := hk'.store (p := ⟨g, T k * 10 + 2 + k, none⟩) hs'.gblk.choose_spec.1 (by decide) (.int .i64 (M : Int))
          have kt2 := kt'.far (p := ⟨g, T k * 10 + 2 + k, none⟩) htg (.int .i64 (M : Int))
          have kx2 := kx'.far (p := ⟨g, T k * 10 + 2 + k, none⟩) (fun e => hgX e.symm) (.int .i64 (M : Int))
          have hkb2 := KeepBut.setCell (S := fun b => b = g) (p := ⟨g, T k * 10 + 2 + k, none⟩) hkb' rfl (.int .i64 (M : Int))
          have k0i : (0 : Int) ≤ (k : Int) := by omega
          have k8i : (k : Int) < 8 := by omega
          have t0i : (0 : Int) ≤ (T k : Int) := by omega
          have tMi : (T k : Int) < (M : Int) := by omega
          replace hv := Lib.hid hv
          replace hlen := Lib.hid hlen
          clear hs hk kt kx hkb hkpX hs' hk' kt' kx' hkb'
          go_wp2_with fail
          refine still_tail 15 hfol (by kernel_rfl) ?_
          simp only [List.take_succ_cons, List.take_zero, List.drop_succ_cons, List.drop_zero]
          iterate 15 still_step
          refine wpStill_nil ?_
          go_wp2_with fail
          refine still_tail 12 hfol (by kernel_rfl) ?_
          simp only [List.take_succ_cons, List.take_zero, List.drop_succ_cons, List.drop_zero]
          iterate 12 still_step
          refine wpStill_nil ?_
          go_wp2
          go_roundw
          case rel => exact ⟨k + 1, by omega, by go_num, hs2.drew.drew, kt2, kx2, hk2, hkb2.drew.drew⟩
          case measure => simp [intOf] <;> omega
        · obtain rfl : k = H := by omega
          obtain ⟨f0, f1, f2, f3, f4, f5, f6, f7, hff⟩ := eight (newNx_length N T k)
          have hnc : newCells K x A' n c' (newNx N T k) = [.slice A' n c', .int .i64 x, .int .i64 (f0 : Int), .int .i64 (f1 : Int), .int .i64 (f2 : Int), .int .i64 (f3 : Int), .int .i64 (f4 : Int), .int .i64 (f5 : Int), .int .i64 (f6 : Int), .int .i64 (f7 : Int)] := by rw [hff]; rfl
          rw [hnc] at kx
          replace hnc := Lib.hid hnc
          replace hff := Lib.hid hff
          have hld := fun (W : World) (hW : KeepBut (fun b => b = p ∨ b = g) wr W) => (show W.rangeAt X 0 [.slice A' n c', .int .i64 x, .int .i64 (f0 : Int), .int .i64 (f1 : Int), .int .i64 (f2 : Int), .int .i64 (f3 : Int), .int .i64 (f4 : Int), .int .i64 (f5 : Int), .int .i64 (f6 : Int), .int .i64 (f7 : Int)] from fun j v hv => by
            rw [Nat.zero_add, cell_of_row W X j _ _ _ ((hW.block X kx.lt (by rintro (e | e) <;> omega)).trans kx)]
            simpa using hv)
          replace hld := Lib.hid hld
          have hS0 : KeepBut (fun b => b = p ∨ b = g) wr wr.drew := (KeepBut.refl wr).drew
          have hu := Tryd.underlying54
          have hi := node_size
          replace hlen := Lib.hid hlen
          replace hkH := Lib.hid hkH
          go_wp2_with fail
          refine wp_region_held (S := fun W => KeepBut (fun b => b = p ∨ b = g) wr W) hfol ?_
          refine wpAnyH_take (i := 0) (v := .pointer (some ⟨p, 0, none⟩)) rfl (by kernel_rfl) (by kernel_rfl) (by kernel_rfl) (fun _ _ _ h => h) (.inl ⟨by rfl, fun W hW => by go_simp⟩) hS0 ?_
          try dsimp only [Act.put]
          try simp only [List.setIfInBounds_toArray, List.set_cons_zero, List.set_cons_succ]
          refine wpAnyH_take (i := 1) (v := .pointer (some ⟨p, 0, none⟩)) rfl (by kernel_rfl) (by kernel_rfl) (by kernel_rfl) (fun _ _ _ h => h) (.inl ⟨by rfl, fun W hW => by go_simp⟩) hS0 ?_
          try dsimp only [Act.put]
          try simp only [List.setIfInBounds_toArray, List.set_cons_zero, List.set_cons_succ]
          refine wpAnyH_take (i := 2) (v := .pointer (some ⟨p, 0, none⟩)) rfl (by kernel_rfl) (by kernel_rfl) (by kernel_rfl) (fun _ _ _ h => h) (.inl ⟨by rfl, fun W hW => by go_simp⟩) hS0 ?_
          try dsimp only [Act.put]
          try simp only [List.setIfInBounds_toArray, List.set_cons_zero, List.set_cons_succ]
          refine wpAnyH_take (i := 3) (v := .pointer (some ⟨p, 0, none⟩)) rfl (by kernel_rfl) (by kernel_rfl) (by kernel_rfl) (fun _ _ _ h => h) (.inl ⟨by rfl, fun W hW => by go_simp⟩) hS0 ?_
          try dsimp only [Act.put]
          try simp only [List.setIfInBounds_toArray, List.set_cons_zero, List.set_cons_succ]
          refine wpAnyH_take (i := 5) (v := .agg #[.slice A' n c', .int .i64 x, .int .i64 (f0 : Int), .int .i64 (f1 : Int), .int .i64 (f2 : Int), .int .i64 (f3 : Int), .int .i64 (f4 : Int), .int .i64 (f5 : Int), .int .i64 (f6 : Int), .int .i64 (f7 : Int)]) rfl (by kernel_rfl) (by kernel_rfl) (by kernel_rfl) (fun _ _ _ h => h) (yieldsIf_load_mid (by rfl) 54 (.tmp 11) rfl X 0 rfl [.slice A' n c', .int .i64 x, .int .i64 (f0 : Int), .int .i64 (f1 : Int), .int .i64 (f2 : Int), .int .i64 (f3 : Int), .int .i64 (f4 : Int), .int .i64 (f5 : Int), .int .i64 (f6 : Int), .int .i64 (f7 : Int)] _ hld.out hu rfl hi) hS0 ?_
          try dsimp only [Act.put]
          try simp only [List.setIfInBounds_toArray, List.set_cons_zero, List.set_cons_succ]
          refine wpAnyH_ready (rs := [4, 6]) (by kernel_rfl) (by simp) (AllReadyH.cons rfl (fun K' hK => ?_) (AllReadyH.cons rfl (fun K' hK => ?_) AllReadyH.nil))
          · go_simp
            refine hK.out _ _ hS0 (fun _ => ?_)
            clear hK K'
            try dsimp only [Act.put]
            try simp only [List.setIfInBounds_toArray, List.set_cons_zero, List.set_cons_succ]
            refine wpAnyH_ready (rs := [6]) (by kernel_rfl) (by simp) (AllReadyH.cons rfl (fun K' hK => ?_) AllReadyH.nil)
            go_simp
            refine hK.out _ _ (hS0.alloc _) (fun hS1 => ?_)
            clear hK K'
            try dsimp only [Act.put]
            try simp only [List.setIfInBounds_toArray, List.set_cons_zero, List.set_cons_succ]
            have hr1 : Rd (wr.drew.alloc (.cells #[.slice A' n c', .int .i64 x, .int .i64 (f0 : Int), .int .i64 (f1 : Int), .int .i64 (f2 : Int), .int .i64 (f3 : Int), .int .i64 (f4 : Int), .int .i64 (f5 : Int), .int .i64 (f6 : Int), .int .i64 (f7 : Int)] 54)) 10 (some ⟨wr.heap.size, 0, none⟩) 1 [.slice A' n c', .int .i64 x, .int .i64 (f0 : Int), .int .i64 (f1 : Int), .int .i64 (f2 : Int), .int .i64 (f3 : Int), .int .i64 (f4 : Int), .int .i64 (f5 : Int), .int .i64 (f6 : Int), .int .i64 (f7 : Int)] := (Blk.new wr.drew 54 #[.slice A' n c', .int .i64 x, .int .i64 (f0 : Int), .int .i64 (f1 : Int), .int .i64 (f2 : Int), .int .i64 (f3 : Int), .int .i64 (f4 : Int), .int .i64 (f5 : Int), .int .i64 (f6 : Int), .int .i64 (f7 : Int)]).rd rfl (fun j u hu => by simpa using hu)
            have one1 : ∀ u ∈ ([.slice A' n c', .int .i64 x, .int .i64 (f0 : Int), .int .i64 (f1 : Int), .int .i64 (f2 : Int), .int .i64 (f3 : Int), .int .i64 (f4 : Int), .int .i64 (f5 : Int), .int .i64 (f6 : Int), .int .i64 (f7 : Int)] : List Value), u.oneCell' = true := by
              intro u hu
              simp only [List.mem_cons, List.not_mem_nil, or_false] at hu
              rcases hu with rfl | rfl | rfl | rfl | rfl | rfl | rfl | rfl | rfl | rfl <;> rfl
            have hrow := hs.row
            rw [hlen.out] at hrow
            have hown1 := (hrow.drew).alloc (.cells #[.slice A' n c', .int .i64 x, .int .i64 (f0 : Int), .int .i64 (f1 : Int), .int .i64 (f2 : Int), .int .i64 (f3 : Int), .int .i64 (f4 : Int), .int .i64 (f5 : Int), .int .i64 (f6 : Int), .int .i64 (f7 : Int)] 54)
            have kp1 := (hs.box.drew).alloc (.cells #[.slice A' n c', .int .i64 x, .int .i64 (f0 : Int), .int .i64 (f1 : Int), .int .i64 (f2 : Int), .int .i64 (f3 : Int), .int .i64 (f4 : Int), .int .i64 (f5 : Int), .int .i64 (f6 : Int), .int .i64 (f7 : Int)] 54)
            have hpb := hs.pb
            have hplt := hs.lt.1
            refine wpAnyH_ready (rs := [7]) (by kernel_rfl) (by simp) (AllReadyH.cons rfl (fun K' hK => ?_) AllReadyH.nil)
            refine step_app _ (by rfl) (.tmp 97) (.tmp 99) (by rfl) Tryd.underlying43 infoN (by rfl) (by omega) hown1 (by rfl) _ 1 1 hr1 (by rfl) one1 (by unfold maxLen; omega) (by omega) (by simp; omega) ?_
            intro v5 w5 hown5 hgrow5 hlie5
            obtain ⟨g5, cap5, rfl, hg5, hg5'⟩ := hown5.form (by omega)
            have hS2 : KeepBut (fun b => b = p ∨ b = g) wr w5 := hS1.trans (KeepBut.of_grown hgrow5 (fun b e => .inr (by simp [Value.ownBlock] at e; omega)))
            have kp5 := kp1.grown hgrow5 (by simp [Value.ownBlock]; exact hs.ne)
            have hpg5 : p ≠ g5 := by
              rintro rfl
              rcases hown5.2 with ⟨h1, _⟩ | ⟨g', cap', cur, hv, _, hg, _⟩
              · cases h1
              · cases hv
                unfold Blk at kp5
                rw [kp5] at hg
                injection hg with hg
                injection hg with _ ht
                exact absurd ht (by decide)
            have hg5w : g5 = g ∨ w.heap.size ≤ g5 := by
              rcases hlie5 with h1 | h1
              · simp [Value.ownBlock] at h1; exact .inl h1
              · simp [Value.ownBlock] at h1; have := hkb.size; exact .inr (by omega)
            refine hK.out _ _ hS2 (fun _ => ?_)
            clear hK K'
            try dsimp only [Act.put]
            try simp only [List.setIfInBounds_toArray, List.set_cons_zero, List.set_cons_succ]
            refine wpAnyH_take (i := 8) (v := .pointer (some ⟨p, 0, none⟩)) rfl (by kernel_rfl) (by kernel_rfl) (by kernel_rfl) (fun _ _ _ h => h) (.inl ⟨by rfl, fun W hW => by go_simp⟩) hS2 ?_
            try dsimp only [Act.put]
            try simp only [List.setIfInBounds_toArray, List.set_cons_zero, List.set_cons_succ]
            refine wpAnyH_take (i := 9) (v := .pointer (some ⟨p, 0, none⟩)) rfl (by kernel_rfl) (by kernel_rfl) (by kernel_rfl) (fun _ _ _ h => h) (.inl ⟨by rfl, fun W hW => by go_simp⟩) hS2 ?_
            try dsimp only [Act.put]
            try simp only [List.setIfInBounds_toArray, List.set_cons_zero, List.set_cons_succ]
            have hc5 := kp5.cell 0
            have hf5 := kp5.frozen 0
            refine wpAnyH_ready (rs := [10]) (by kernel_rfl) (by simp) (AllReadyH.cons rfl (fun K' hK => ?_) AllReadyH.nil)
            have hS3 : KeepBut (fun b => b = p ∨ b = g) wr (w5.setCell ⟨p, 0, none⟩ (.slice (some ⟨g5, 0, none⟩) (M + 1) cap5)) := KeepBut.setCell (S := fun b => b = p ∨ b = g) (p := ⟨p, 0, none⟩) hS2 (.inl rfl) _
            go_simp
            refine hK.out _ _ hS3 (fun _ => ?_)
            clear hK K'
            try dsimp only [Act.put]
            try simp only [List.setIfInBounds_toArray, List.set_cons_zero, List.set_cons_succ]
            refine wpAnyH_done (by kernel_rfl) ?_ _
            have hty : ∀ b cs fr, wr.heap[b]? = some (.cells cs 5 fr) → ¬ (b = p ∨ b = g) := by
              rintro b cs fr hc (e | e)
              · have hb' := hs.box
                unfold Blk at hb'
                rw [e, hb'] at hc
                injection hc with hc
                injection hc with _ ht
                exact absurd ht (by decide)
              · obtain ⟨cur, hg, _⟩ := hs.gblk
                rw [e, hg] at hc
                injection hc with hc
                injection hc with _ ht
                exact absurd ht (by decide)
            have hnl : (insN N T k ⟨K, x, A', c', []⟩).length = M + 1 := by rw [insN_length, hM.out]
            have hfl : flat (insN N T k ⟨K, x, A', c', []⟩) = flat (stepN N T M k) ++ [.slice A' n c', .int .i64 x, .int .i64 (f0 : Int), .int .i64 (f1 : Int), .int .i64 (f2 : Int), .int .i64 (f3 : Int), .int .i64 (f4 : Int), .int .i64 (f5 : Int), .int .i64 (f6 : Int), .int .i64 (f7 : Int)] := by
              unfold insN
              rw [flat_snoc, hM.out, ← hnc.out]
              unfold Nd.cells newCells
              simp only [hn.out]
            have fin : SkAt (w5.setCell ⟨p, 0, none⟩ (.slice (some ⟨g5, 0, none⟩) (M + 1) cap5)) base p g5 cap5 (insN N T k ⟨K, x, A', c', []⟩) := by
              refine ⟨?_, ?_, ?_, hpb⟩
              · rw [hnl]
                exact kp5.store 0 _
              · rw [hnl, hfl]
                exact hown5.kept (grownBy_setCell' w5 p _) (.inr (by simp only [Value.ownBlock]; exact fun e => hpg5 (by cases e; rfl)))
              · intro d hd
                unfold insN at hd
                rcases List.mem_append.1 hd with h1 | h1
                · rw [hM.out] at h1
                  exact ⟨(hs.keys d h1).1.keep hS3 hty, (hs.keys d h1).2⟩
                · rw [List.mem_singleton.1 h1]
                  exact ⟨hk.keep hS3 hty, by show K.length ≤ _; rw [hn.out]; exact hn2⟩
            have hkf : KeepBut (fun b => b = p ∨ b = g) w (w5.setCell ⟨p, 0, none⟩ (.slice (some ⟨g5, 0, none⟩) (M + 1) cap5)) := (hkb.weak (fun _ _ e => .inr e)).trans hS3
            clear hld hrow hown1 kp1 hown5 hgrow5 hlie5 kp5 hc5 hf5 hr1 one1 hu hi hnc hff kx kt hbx hS0 hS1 hS2 hS3 hs hk hkb hfl hnl
            go_wp2
            go_ret
            exact ⟨g5, cap5, A', c', rfl, fin, hkf, hg5w, hA0.out⟩
          · go_simp
            refine hK.out _ _ (hS0.alloc _) (fun hS1 => ?_)
            clear hK K'
            try dsimp only [Act.put]
            try simp only [List.setIfInBounds_toArray, List.set_cons_zero, List.set_cons_succ]
            have hbx6 := ((hs.box).alloc (.cells #[.slice A' n c', .int .i64 x, .int .i64 (f0 : Int), .int .i64 (f1 : Int), .int .i64 (f2 : Int), .int .i64 (f3 : Int), .int .i64 (f4 : Int), .int .i64 (f5 : Int), .int .i64 (f6 : Int), .int .i64 (f7 : Int)] 54)).cell 0
            rw [hlen.out] at hbx6
            refine wpAnyH_ready (rs := [4]) (by kernel_rfl) (by simp) (AllReadyH.cons rfl (fun K' hK => ?_) AllReadyH.nil)
            go_simp
            refine hK.out _ _ hS1 (fun _ => ?_)
            clear hK K' hbx6
            try dsimp only [Act.put]
            try simp only [List.setIfInBounds_toArray, List.set_cons_zero, List.set_cons_succ]
            have hr1 : Rd (wr.drew.alloc (.cells #[.slice A' n c', .int .i64 x, .int .i64 (f0 : Int), .int .i64 (f1 : Int), .int .i64 (f2 : Int), .int .i64 (f3 : Int), .int .i64 (f4 : Int), .int .i64 (f5 : Int), .int .i64 (f6 : Int), .int .i64 (f7 : Int)] 54)) 10 (some ⟨wr.heap.size, 0, none⟩) 1 [.slice A' n c', .int .i64 x, .int .i64 (f0 : Int), .int .i64 (f1 : Int), .int .i64 (f2 : Int), .int .i64 (f3 : Int), .int .i64 (f4 : Int), .int .i64 (f5 : Int), .int .i64 (f6 : Int), .int .i64 (f7 : Int)] := (Blk.new wr.drew 54 #[.slice A' n c', .int .i64 x, .int .i64 (f0 : Int), .int .i64 (f1 : Int), .int .i64 (f2 : Int), .int .i64 (f3 : Int), .int .i64 (f4 : Int), .int .i64 (f5 : Int), .int .i64 (f6 : Int), .int .i64 (f7 : Int)]).rd rfl (fun j u hu => by simpa using hu)
            have one1 : ∀ u ∈ ([.slice A' n c', .int .i64 x, .int .i64 (f0 : Int), .int .i64 (f1 : Int), .int .i64 (f2 : Int), .int .i64 (f3 : Int), .int .i64 (f4 : Int), .int .i64 (f5 : Int), .int .i64 (f6 : Int), .int .i64 (f7 : Int)] : List Value), u.oneCell' = true := by
              intro u hu
              simp only [List.mem_cons, List.not_mem_nil, or_false] at hu
              rcases hu with rfl | rfl | rfl | rfl | rfl | rfl | rfl | rfl | rfl | rfl <;> rfl
            have hrow := hs.row
            rw [hlen.out] at hrow
            have hown1 := (hrow.drew).alloc (.cells #[.slice A' n c', .int .i64 x, .int .i64 (f0 : Int), .int .i64 (f1 : Int), .int .i64 (f2 : Int), .int .i64 (f3 : Int), .int .i64 (f4 : Int), .int .i64 (f5 : Int), .int .i64 (f6 : Int), .int .i64 (f7 : Int)] 54)
            have kp1 := (hs.box.drew).alloc (.cells #[.slice A' n c', .int .i64 x, .int .i64 (f0 : Int), .int .i64 (f1 : Int), .int .i64 (f2 : Int), .int .i64 (f3 : Int), .int .i64 (f4 : Int), .int .i64 (f5 : Int), .int .i64 (f6 : Int), .int .i64 (f7 : Int)] 54)
            have hpb := hs.pb
            have hplt := hs.lt.1
            refine wpAnyH_ready (rs := [7]) (by kernel_rfl) (by simp) (AllReadyH.cons rfl (fun K' hK => ?_) AllReadyH.nil)
            refine step_app _ (by rfl) (.tmp 97) (.tmp 99) (by rfl) Tryd.underlying43 infoN (by rfl) (by omega) hown1 (by rfl) _ 1 1 hr1 (by rfl) one1 (by unfold maxLen; omega) (by omega) (by simp; omega) ?_
            intro v5 w5 hown5 hgrow5 hlie5
            obtain ⟨g5, cap5, rfl, hg5, hg5'⟩ := hown5.form (by omega)
            have hS2 : KeepBut (fun b => b = p ∨ b = g) wr w5 := hS1.trans (KeepBut.of_grown hgrow5 (fun b e => .inr (by simp [Value.ownBlock] at e; omega)))
            have kp5 := kp1.grown hgrow5 (by simp [Value.ownBlock]; exact hs.ne)
            have hpg5 : p ≠ g5 := by
              rintro rfl
              rcases hown5.2 with ⟨h1, _⟩ | ⟨g', cap', cur, hv, _, hg, _⟩
              · cases h1
              · cases hv
                unfold Blk at kp5
                rw [kp5] at hg
                injection hg with hg
                injection hg with _ ht
                exact absurd ht (by decide)
            have hg5w : g5 = g ∨ w.heap.size ≤ g5 := by
              rcases hlie5 with h1 | h1
              · simp [Value.ownBlock] at h1; exact .inl h1
              · simp [Value.ownBlock] at h1; have := hkb.size; exact .inr (by omega)
            refine hK.out _ _ hS2 (fun _ => ?_)
            clear hK K'
            try dsimp only [Act.put]
            try simp only [List.setIfInBounds_toArray, List.set_cons_zero, List.set_cons_succ]
            refine wpAnyH_take (i := 8) (v := .pointer (some ⟨p, 0, none⟩)) rfl (by kernel_rfl) (by kernel_rfl) (by kernel_rfl) (fun _ _ _ h => h) (.inl ⟨by rfl, fun W hW => by go_simp⟩) hS2 ?_
            try dsimp only [Act.put]
            try simp only [List.setIfInBounds_toArray, List.set_cons_zero, List.set_cons_succ]
            refine wpAnyH_take (i := 9) (v := .pointer (some ⟨p, 0, none⟩)) rfl (by kernel_rfl) (by kernel_rfl) (by kernel_rfl) (fun _ _ _ h => h) (.inl ⟨by rfl, fun W hW => by go_simp⟩) hS2 ?_
            try dsimp only [Act.put]
            try simp only [List.setIfInBounds_toArray, List.set_cons_zero, List.set_cons_succ]
            have hc5 := kp5.cell 0
            have hf5 := kp5.frozen 0
            refine wpAnyH_ready (rs := [10]) (by kernel_rfl) (by simp) (AllReadyH.cons rfl (fun K' hK => ?_) AllReadyH.nil)
            have hS3 : KeepBut (fun b => b = p ∨ b = g) wr (w5.setCell ⟨p, 0, none⟩ (.slice (some ⟨g5, 0, none⟩) (M + 1) cap5)) := KeepBut.setCell (S := fun b => b = p ∨ b = g) (p := ⟨p, 0, none⟩) hS2 (.inl rfl) _
            go_simp
            refine hK.out _ _ hS3 (fun _ => ?_)
            clear hK K'
            try dsimp only [Act.put]
            try simp only [List.setIfInBounds_toArray, List.set_cons_zero, List.set_cons_succ]
            refine wpAnyH_done (by kernel_rfl) ?_ _
            have hty : ∀ b cs fr, wr.heap[b]? = some (.cells cs 5 fr) → ¬ (b = p ∨ b = g) := by
              rintro b cs fr hc (e | e)
              · have hb' := hs.box
                unfold Blk at hb'
                rw [e, hb'] at hc
                injection hc with hc
                injection hc with _ ht
                exact absurd ht (by decide)
              · obtain ⟨cur, hg, _⟩ := hs.gblk
                rw [e, hg] at hc
                injection hc with hc
                injection hc with _ ht
                exact absurd ht (by decide)
            have hnl : (insN N T k ⟨K, x, A', c', []⟩).length = M + 1 := by rw [insN_length, hM.out]
            have hfl : flat (insN N T k ⟨K, x, A', c', []⟩) = flat (stepN N T M k) ++ [.slice A' n c', .int .i64 x, .int .i64 (f0 : Int), .int .i64 (f1 : Int), .int .i64 (f2 : Int), .int .i64 (f3 : Int), .int .i64 (f4 : Int), .int .i64 (f5 : Int), .int .i64 (f6 : Int), .int .i64 (f7 : Int)] := by
              unfold insN
              rw [flat_snoc, hM.out, ← hnc.out]
              unfold Nd.cells newCells
              simp only [hn.out]
            have fin : SkAt (w5.setCell ⟨p, 0, none⟩ (.slice (some ⟨g5, 0, none⟩) (M + 1) cap5)) base p g5 cap5 (insN N T k ⟨K, x, A', c', []⟩) := by
              refine ⟨?_, ?_, ?_, hpb⟩
              · rw [hnl]
                exact kp5.store 0 _
              · rw [hnl, hfl]
                exact hown5.kept (grownBy_setCell' w5 p _) (.inr (by simp only [Value.ownBlock]; exact fun e => hpg5 (by cases e; rfl)))
              · intro d hd
                unfold insN at hd
                rcases List.mem_append.1 hd with h1 | h1
                · rw [hM.out] at h1
                  exact ⟨(hs.keys d h1).1.keep hS3 hty, (hs.keys d h1).2⟩
                · rw [List.mem_singleton.1 h1]
                  exact ⟨hk.keep hS3 hty, by show K.length ≤ _; rw [hn.out]; exact hn2⟩
            have hkf : KeepBut (fun b => b = p ∨ b = g) w (w5.setCell ⟨p, 0, none⟩ (.slice (some ⟨g5, 0, none⟩) (M + 1) cap5)) := (hkb.weak (fun _ _ e => .inr e)).trans hS3
            clear hld hrow hown1 kp1 hown5 hgrow5 hlie5 kp5 hc5 hf5 hr1 one1 hu hi hnc hff kx kt hbx hS0 hS1 hS2 hS3 hs hk hkb hfl hnl
            go_wp2
            go_ret
            exact ⟨g5, cap5, A', c', rfl, fin, hkf, hg5w, hA0.out⟩
    · go_simp
      refine hK.out _ _ (hS0.alloc hS0.size _) (fun hS1 => ?_)
      clear hK K'
      try dsimp only [Act.put]
      try simp only [List.setIfInBounds_toArray, List.set_cons_zero, List.set_cons_succ]
      have kx : Blk (W0.drew.alloc (.cells #[.slice none 0 0, .int .i64 0, .int .i64 0, .int .i64 0, .int .i64 0, .int .i64 0, .int .i64 0, .int .i64 0, .int .i64 0, .int .i64 0] 54)) W0.heap.size 54 #[.slice none 0 0, .int .i64 0, .int .i64 0, .int .i64 0, .int .i64 0, .int .i64 0, .int .i64 0, .int .i64 0, .int .i64 0, .int .i64 0] := Blk.new W0.drew _ _
      refine wpAnyH_ready (rs := [1]) (by kernel_rfl) (by simp) (AllReadyH.cons rfl (fun K' hK => ?_) AllReadyH.nil)
      go_simp
      go_at_call 20
      refine (pc.out _ hS1).mono ?_
      rintro _ w4 ⟨A', c', rfl, hown, b4⟩
      have hA0 : Hid (∀ a, A' = some a → w.heap.size ≤ a.block) := Lib.hid (fun a e => by
        rcases hown.2 with ⟨h, _⟩ | ⟨g1, _, _, h, hb1, _⟩
        · rw [e] at h; cases h
        · rw [e] at h; cases h; first | exact Nat.le_trans hS0.size hb1 | exact Nat.le_trans hS1.size hb1)
      have b5 := hS1.trans (b4.mono hS1.size)
      refine hK.out _ _ b5 (fun _ => ?_)
      clear hK K'
      try dsimp only [Act.put]
      try simp only [List.setIfInBounds_toArray, List.set_cons_zero, List.set_cons_succ]
      refine wpAnyH_take (i := 3) (v := .agg #[.slice A' n c', .int .i64 x, .int .i64 0, .int .i64 0, .int .i64 0, .int .i64 0, .int .i64 0, .int .i64 0, .int .i64 0, .int .i64 0]) rfl (by kernel_rfl) (by kernel_rfl) (by kernel_rfl) (fun _ _ _ h => h) (.inl ⟨by rfl, fun W hW => by go_simp⟩) b5 ?_
      try dsimp only [Act.put]
      try simp only [List.setIfInBounds_toArray, List.set_cons_zero, List.set_cons_succ]
      refine wpAnyH_ready (rs := [10]) (by kernel_rfl) (by simp) (AllReadyH.cons rfl (fun K' hK => ?_) AllReadyH.nil)
      rw [if_pos (by rfl)]
      have kx4 := kx.below b4 kx.lt
      refine wp_store_row 54 _ _ rfl W0.heap.size (newCells K x A' n c' (List.replicate 8 0)).toArray rfl rfl _ _ kx4 (by kernel_rfl) rfl (newCells_one _ _ _ _ _ _) ?_
      refine hK.out _ _ (below_setRow' b5 hS0.size _) (fun hS2 => ?_)
      clear hK K'
      try dsimp only [Act.put]
      try simp only [List.setIfInBounds_toArray, List.set_cons_zero, List.set_cons_succ]
      refine wpAnyH_take (i := 11) (v := .int .i64 (M : Int)) rfl (by kernel_rfl) (by kernel_rfl) (by kernel_rfl) (fun _ _ _ h => h) (.inl ⟨by rfl, fun W hW => by go_simp⟩) hS2 ?_
      try dsimp only [Act.put]
      try simp only [List.setIfInBounds_toArray, List.set_cons_zero, List.set_cons_succ]
      refine wpAnyH_done (by kernel_rfl) ?_ _
      have hk := (own_keyAt hown).keep (S := fun k => k = W0.heap.size) (KeepBut.of_grown (grown_setRow w4 W0.heap.size (newCells K x A' n c' (List.replicate 8 0)).toArray) (fun k e => by cases e; rfl)) (fun k cs fr hc e => by
        rw [e, kx4] at hc
        injection hc with hc
        injection hc with _ ht
        exact absurd ht (by decide))
      have q05 : Below W0.heap.size W0 w4 := ((Below.refl W0.heap.size W0).drew.alloc (Nat.le_refl _) _).trans (b4.mono (by simp))
      replace kt := kt.below (below_setRow' q05 (Nat.le_refl _) (newCells K x A' n c' (List.replicate 8 0)).toArray) kt.lt
      replace kx := kx4.setRow (newCells K x A' n c' (List.replicate 8 0)).toArray
      have hXw := b3.size
      obtain ⟨X, hX⟩ : ∃ X, W0.heap.size = X := ⟨_, rfl⟩
      rw [hX] at kx hk kt hS2 hXw ⊢
      clear q05 hX hS1 b5 b4 hown hS0 kx4
      generalize w4.setRow X (newCells K x A' n c' (List.replicate 8 0)).toArray = W5 at *
      clear hcx hbx pc hfol hnx hr
      have hfol : Tryd.prog.follows .mixedOrders = true := by kernel_rfl
      have hgX : g ≠ X := by have := hS.lt.2; omega
      have hpX : p ≠ X := by have := hS.lt.1; omega
      have htX : tw ≠ X := kt.ne_ kx (by decide)
      have htg : tw ≠ g := by have := hS.lt.2; omega
      have htp : tw ≠ p := by have := hS.lt.1; omega
      have hkb5 : KeepBut (fun b => b = g) w W5 := KeepBut.of_below hS2
      have hs5 : SkAt W5 base p g cap (stepN N T M 0) := hS.below hS2
      replace kx : Blk W5 X 54 (newCells K x A' n c' (newNx N T 0)).toArray := kx
      have h8N := I.ok8
      have hTM' := hTM.out
      have hTN : ∀ f, T f < N.length := fun f => by rw [hM.out]; exact hTM' f
      replace hTN := Lib.hid hTN
      clear hTM' hS2 b3
      go_wp2
      go_loopw [62] (fun i wr => ∃ k : Nat, k ≤ H ∧ i = .int .i64 (k : Int) ∧ SkAt wr base p g cap (stepN N T M k) ∧ Blk wr tw 51 #[.int .i64 (T 0 : Int), .int .i64 (T 1 : Int), .int .i64 (T 2 : Int), .int .i64 (T 3 : Int), .int .i64 (T 4 : Int), .int .i64 (T 5 : Int), .int .i64 (T 6 : Int), .int .i64 (T 7 : Int)] ∧ Blk wr X 54 (newCells K x A' n c' (newNx N T k)).toArray ∧ KeyAt wr 5 A' K ∧ KeepBut (fun b => b = g) w wr) (fun i _ => H - (intOf i).toNat)
      case atStart => exact ⟨0, by omega, rfl, hs5, kt, kx, hk, hkb5⟩
      case round =>
        clear hs5 kt kx hk hkb5
        obtain ⟨k, hkH, rfl, hs, kt, kx, hk, hkb⟩ := hrel
        have hlen : (stepN N T M k).length = M := by rw [stepN_length]; exact hM.out
        have h8k := stepN_ok h8N T M k
        have hbx := hs.box.cell 0
        rw [hlen] at hbx
        by_cases hlt : k < H
        · have hk8 : k < 8 := by omega
          have hTk := hTM.out k
          have hct := kt.cell k
          rw [← tow_lit, List.getElem?_toArray, towL_get _ _ _ hk8, if_pos (by omega)] at hct
          have hcx := hs.cellNx h8k (show T k < (stepN N T M k).length by rw [hlen]; exact hTk) hk8
          rw [stepN_nx hTN.out h8N k (by omega), if_neg (by omega)] at hcx
          obtain ⟨v, hv⟩ : ∃ v, nxOf N k (T k) = v := ⟨_, rfl⟩
          rw [hv] at hcx
          have hxc := kx.cell (2 + k)
          rw [newCells_get _ _ _ _ _ _ _ (by rw [newNx_length]; exact hk8)] at hxc
          have hxf := kx.frozen (2 + k)
          have kx' := kx.store (2 + k) (.int .i64 (v : Int))
          rw [newCells_set, ← hv] at kx'
          replace kx' : Blk (wr.setCell ⟨X, 2 + k, none⟩ (.int .i64 (v : Int))) X 54 (newCells K x A' n c' (newNx N T (k + 1))).toArray := by rw [← hv]; exact kx'
          have hkpX : KeepBut (fun b => b = X) wr (wr.setCell ⟨X, 2 + k, none⟩ (.int .i64 (v : Int))) := KeepBut.set_at wr X (2 + k) _
          have hs' := hs.keep hkpX hpX hgX (fun b cs fr hc e => by
            rw [e, kx] at hc
            injection hc with hc
            injection hc with _ ht
            exact absurd ht (by decide))
          have hk' := hk.store (p := ⟨X, 2 + k, none⟩) kx (by decide) (.int .i64 (v : Int))
          have kt' := kt.far (p := ⟨X, 2 + k, none⟩) htX (.int .i64 (v : Int))
          have hkb' := KeepBut.setCell_new (p := ⟨X, 2 + k, none⟩) hkb hXw (.int .i64 (v : Int))
          have hct' := kt'.cell k
          rw [← tow_lit, List.getElem?_toArray, towL_get _ _ _ hk8, if_pos (by omega)] at hct'
          have hcx' := hs'.cellNx h8k (show T k < (stepN N T M k).length by rw [hlen]; exact hTk) hk8
          have hcf' := hs'.row.frozenAt (T k * 10 + 2 + k)
          have hbx' := hs'.box.cell 0
          rw [hlen] at hbx'
          have hs2 := hs'.setNx h8k (show T k < (stepN N T M k).length by rw [hlen]; exact hTk) hk8 M
          have hk2 := hk'.store (p := ⟨g, T k * 10 + 2 + k, none⟩) hs'.gblk.choose_spec.1 (by decide) (.int .i64 (M : Int))
          have kt2 := kt'.far (p := ⟨g, T k * 10 + 2 + k, none⟩) htg (.int .i64 (M : Int))
          have kx2 := kx'.far (p := ⟨g, T k * 10 + 2 + k, none⟩) (fun e => hgX e.symm) (.int .i64 (M : Int))
          have hkb2 := KeepBut.setCell (S := fun b => b = g) (p := ⟨g, T k * 10 + 2 + k, none⟩) hkb' rfl (.int .i64 (M : Int))
          have k0i : (0 : Int) ≤ (k : Int) := by omega
          have k8i : (k : Int) < 8 := by omega
          have t0i : (0 : Int) ≤ (T k : Int) := by omega
          have tMi : (T k : Int) < (M : Int) := by omega
          replace hv := Lib.hid hv
          replace hlen := Lib.hid hlen
          clear hs hk kt kx hkb hkpX hs' hk' kt' kx' hkb'
          go_wp2_with fail
          refine still_tail 15 hfol (by kernel_rfl) ?_
          simp only [List.take_succ_cons, List.take_zero, List.drop_succ_cons, List.drop_zero]
          iterate 15 still_step
          refine wpStill_nil ?_
          go_wp2_with fail
          refine still_tail 12 hfol (by kernel_rfl) ?_
          simp only [List.take_succ_cons, List.take_zero, List.drop_succ_cons, List.drop_zero]
          iterate 12 still_step
          refine wpStill_nil ?_
          go_wp2
          go_roundw
          case rel => exact ⟨k + 1, by omega, by go_num, hs2.drew.drew, kt2, kx2, hk2, hkb2.drew.drew⟩
          case measure => simp [intOf] <;> omega
        · obtain rfl : k = H := by omega
          obtain ⟨f0, f1, f2, f3, f4, f5, f6, f7, hff⟩ := eight (newNx_length N T k)
          have hnc : newCells K x A' n c' (newNx N T k) = [.slice A' n c', .int .i64 x, .int .i64 (f0 : Int), .int .i64 (f1 : Int), .int .i64 (f2 : Int), .int .i64 (f3 : Int), .int .i64 (f4 : Int), .int .i64 (f5 : Int), .int .i64 (f6 : Int), .int .i64 (f7 : Int)] := by rw [hff]; rfl
          rw [hnc] at kx
          replace hnc := Lib.hid hnc
          replace hff := Lib.hid hff
          have hld := fun (W : World) (hW : KeepBut (fun b => b = p ∨ b = g) wr W) => (show W.rangeAt X 0 [.slice A' n c', .int .i64 x, .int .i64 (f0 : Int), .int .i64 (f1 : Int), .int .i64 (f2 : Int), .int .i64 (f3 : Int), .int .i64 (f4 : Int), .int .i64 (f5 : Int), .int .i64 (f6 : Int), .int .i64 (f7 : Int)] from fun j v hv => by
            rw [Nat.zero_add, cell_of_row W X j _ _ _ ((hW.block X kx.lt (by rintro (e | e) <;> omega)).trans kx)]
            simpa using hv)
          replace hld := Lib.hid hld
          have hS0 : KeepBut (fun b => b = p ∨ b = g) wr wr.drew := (KeepBut.refl wr).drew
          have hu := Tryd.underlying54
          have hi := node_size
          replace hlen := Lib.hid hlen
          replace hkH := Lib.hid hkH
          go_wp2_with fail
          refine wp_region_held (S := fun W => KeepBut (fun b => b = p ∨ b = g) wr W) hfol ?_
          refine wpAnyH_take (i := 0) (v := .pointer (some ⟨p, 0, none⟩)) rfl (by kernel_rfl) (by kernel_rfl) (by kernel_rfl) (fun _ _ _ h => h) (.inl ⟨by rfl, fun W hW => by go_simp⟩) hS0 ?_
          try dsimp only [Act.put]
          try simp only [List.setIfInBounds_toArray, List.set_cons_zero, List.set_cons_succ]
          refine wpAnyH_take (i := 1) (v := .pointer (some ⟨p, 0, none⟩)) rfl (by kernel_rfl) (by kernel_rfl) (by kernel_rfl) (fun _ _ _ h => h) (.inl ⟨by rfl, fun W hW => by go_simp⟩) hS0 ?_
          try dsimp only [Act.put]
          try simp only [List.setIfInBounds_toArray, List.set_cons_zero, List.set_cons_succ]
          refine wpAnyH_take (i := 2) (v := .pointer (some ⟨p, 0, none⟩)) rfl (by kernel_rfl) (by kernel_rfl) (by kernel_rfl) (fun _ _ _ h => h) (.inl ⟨by rfl, fun W hW => by go_simp⟩) hS0 ?_
          try dsimp only [Act.put]
          try simp only [List.setIfInBounds_toArray, List.set_cons_zero, List.set_cons_succ]
          refine wpAnyH_take (i := 3) (v := .pointer (some ⟨p, 0, none⟩)) rfl (by kernel_rfl) (by kernel_rfl) (by kernel_rfl) (fun _ _ _ h => h) (.inl ⟨by rfl, fun W hW => by go_simp⟩) hS0 ?_
          try dsimp only [Act.put]
          try simp only [List.setIfInBounds_toArray, List.set_cons_zero, List.set_cons_succ]
          refine wpAnyH_take (i := 5) (v := .agg #[.slice A' n c', .int .i64 x, .int .i64 (f0 : Int), .int .i64 (f1 : Int), .int .i64 (f2 : Int), .int .i64 (f3 : Int), .int .i64 (f4 : Int), .int .i64 (f5 : Int), .int .i64 (f6 : Int), .int .i64 (f7 : Int)]) rfl (by kernel_rfl) (by kernel_rfl) (by kernel_rfl) (fun _ _ _ h => h) (yieldsIf_load_mid (by rfl) 54 (.tmp 11) rfl X 0 rfl [.slice A' n c', .int .i64 x, .int .i64 (f0 : Int), .int .i64 (f1 : Int), .int .i64 (f2 : Int), .int .i64 (f3 : Int), .int .i64 (f4 : Int), .int .i64 (f5 : Int), .int .i64 (f6 : Int), .int .i64 (f7 : Int)] _ hld.out hu rfl hi) hS0 ?_
          try dsimp only [Act.put]
          try simp only [List.setIfInBounds_toArray, List.set_cons_zero, List.set_cons_succ]
          refine wpAnyH_ready (rs := [4, 6]) (by kernel_rfl) (by simp) (AllReadyH.cons rfl (fun K' hK => ?_) (AllReadyH.cons rfl (fun K' hK => ?_) AllReadyH.nil))
          · go_simp
            refine hK.out _ _ hS0 (fun _ => ?_)
            clear hK K'
            try dsimp only [Act.put]
            try simp only [List.setIfInBounds_toArray, List.set_cons_zero, List.set_cons_succ]
            refine wpAnyH_ready (rs := [6]) (by kernel_rfl) (by simp) (AllReadyH.cons rfl (fun K' hK => ?_) AllReadyH.nil)
            go_simp
            refine hK.out _ _ (hS0.alloc _) (fun hS1 => ?_)
            clear hK K'
            try dsimp only [Act.put]
            try simp only [List.setIfInBounds_toArray, List.set_cons_zero, List.set_cons_succ]
            have hr1 : Rd (wr.drew.alloc (.cells #[.slice A' n c', .int .i64 x, .int .i64 (f0 : Int), .int .i64 (f1 : Int), .int .i64 (f2 : Int), .int .i64 (f3 : Int), .int .i64 (f4 : Int), .int .i64 (f5 : Int), .int .i64 (f6 : Int), .int .i64 (f7 : Int)] 54)) 10 (some ⟨wr.heap.size, 0, none⟩) 1 [.slice A' n c', .int .i64 x, .int .i64 (f0 : Int), .int .i64 (f1 : Int), .int .i64 (f2 : Int), .int .i64 (f3 : Int), .int .i64 (f4 : Int), .int .i64 (f5 : Int), .int .i64 (f6 : Int), .int .i64 (f7 : Int)] := (Blk.new wr.drew 54 #[.slice A' n c', .int .i64 x, .int .i64 (f0 : Int), .int .i64 (f1 : Int), .int .i64 (f2 : Int), .int .i64 (f3 : Int), .int .i64 (f4 : Int), .int .i64 (f5 : Int), .int .i64 (f6 : Int), .int .i64 (f7 : Int)]).rd rfl (fun j u hu => by simpa using hu)
            have one1 : ∀ u ∈ ([.slice A' n c', .int .i64 x, .int .i64 (f0 : Int), .int .i64 (f1 : Int), .int .i64 (f2 : Int), .int .i64 (f3 : Int), .int .i64 (f4 : Int), .int .i64 (f5 : Int), .int .i64 (f6 : Int), .int .i64 (f7 : Int)] : List Value), u.oneCell' = true := by
              intro u hu
              simp only [List.mem_cons, List.not_mem_nil, or_false] at hu
              rcases hu with rfl | rfl | rfl | rfl | rfl | rfl | rfl | rfl | rfl | rfl <;> rfl
            have hrow := hs.row
            rw [hlen.out] at hrow
            have hown1 := (hrow.drew).alloc (.cells #[.slice A' n c', .int .i64 x, .int .i64 (f0 : Int), .int .i64 (f1 : Int), .int .i64 (f2 : Int), .int .i64 (f3 : Int), .int .i64 (f4 : Int), .int .i64 (f5 : Int), .int .i64 (f6 : Int), .int .i64 (f7 : Int)] 54)
            have kp1 := (hs.box.drew).alloc (.cells #[.slice A' n c', .int .i64 x, .int .i64 (f0 : Int), .int .i64 (f1 : Int), .int .i64 (f2 : Int), .int .i64 (f3 : Int), .int .i64 (f4 : Int), .int .i64 (f5 : Int), .int .i64 (f6 : Int), .int .i64 (f7 : Int)] 54)
            have hpb := hs.pb
            have hplt := hs.lt.1
            refine wpAnyH_ready (rs := [7]) (by kernel_rfl) (by simp) (AllReadyH.cons rfl (fun K' hK => ?_) AllReadyH.nil)
            refine step_app _ (by rfl) (.tmp 97) (.tmp 99) (by rfl) Tryd.underlying43 infoN (by rfl) (by omega) hown1 (by rfl) _ 1 1 hr1 (by rfl) one1 (by unfold maxLen; omega) (by omega) (by simp; omega) ?_
            intro v5 w5 hown5 hgrow5 hlie5
            obtain ⟨g5, cap5, rfl, hg5, hg5'⟩ := hown5.form (by omega)
            have hS2 : KeepBut (fun b => b = p ∨ b = g) wr w5 := hS1.trans (KeepBut.of_grown hgrow5 (fun b e => .inr (by simp [Value.ownBlock] at e; omega)))
            have kp5 := kp1.grown hgrow5 (by simp [Value.ownBlock]; exact hs.ne)
            have hpg5 : p ≠ g5 := by
              rintro rfl
              rcases hown5.2 with ⟨h1, _⟩ | ⟨g', cap', cur, hv, _, hg, _⟩
              · cases h1
              · cases hv
                unfold Blk at kp5
                rw [kp5] at hg
                injection hg with hg
                injection hg with _ ht
                exact absurd ht (by decide)
            have hg5w : g5 = g ∨ w.heap.size ≤ g5 := by
              rcases hlie5 with h1 | h1
              · simp [Value.ownBlock] at h1; exact .inl h1
              · simp [Value.ownBlock] at h1; have := hkb.size; exact .inr (by omega)
            refine hK.out _ _ hS2 (fun _ => ?_)
            clear hK K'
            try dsimp only [Act.put]
            try simp only [List.setIfInBounds_toArray, List.set_cons_zero, List.set_cons_succ]
            refine wpAnyH_take (i := 8) (v := .pointer (some ⟨p, 0, none⟩)) rfl (by kernel_rfl) (by kernel_rfl) (by kernel_rfl) (fun _ _ _ h => h) (.inl ⟨by rfl, fun W hW => by go_simp⟩) hS2 ?_
            try dsimp only [Act.put]
            try simp only [List.setIfInBounds_toArray, List.set_cons_zero, List.set_cons_succ]
            refine wpAnyH_take (i := 9) (v := .pointer (some ⟨p, 0, none⟩)) rfl (by kernel_rfl) (by kernel_rfl) (by kernel_rfl) (fun _ _ _ h => h) (.inl ⟨by rfl, fun W hW => by go_simp⟩) hS2 ?_
            try dsimp only [Act.put]
            try simp only [List.setIfInBounds_toArray, List.set_cons_zero, List.set_cons_succ]
            have hc5 := kp5.cell 0
            have hf5 := kp5.frozen 0
            refine wpAnyH_ready (rs := [10]) (by kernel_rfl) (by simp) (AllReadyH.cons rfl (fun K' hK => ?_) AllReadyH.nil)
            have hS3 : KeepBut (fun b => b = p ∨ b = g) wr (w5.setCell ⟨p, 0, none⟩ (.slice (some ⟨g5, 0, none⟩) (M + 1) cap5)) := KeepBut.setCell (S := fun b => b = p ∨ b = g) (p := ⟨p, 0, none⟩) hS2 (.inl rfl) _
            go_simp
            refine hK.out _ _ hS3 (fun _ => ?_)
            clear hK K'
            try dsimp only [Act.put]
            try simp only [List.setIfInBounds_toArray, List.set_cons_zero, List.set_cons_succ]
            refine wpAnyH_done (by kernel_rfl) ?_ _
            have hty : ∀ b cs fr, wr.heap[b]? = some (.cells cs 5 fr) → ¬ (b = p ∨ b = g) := by
              rintro b cs fr hc (e | e)
              · have hb' := hs.box
                unfold Blk at hb'
                rw [e, hb'] at hc
                injection hc with hc
                injection hc with _ ht
                exact absurd ht (by decide)
              · obtain ⟨cur, hg, _⟩ := hs.gblk
                rw [e, hg] at hc
                injection hc with hc
                injection hc with _ ht
                exact absurd ht (by decide)
            have hnl : (insN N T k ⟨K, x, A', c', []⟩).length = M + 1 := by rw [insN_length, hM.out]
            have hfl : flat (insN N T k ⟨K, x, A', c', []⟩) = flat (stepN N T M k) ++ [.slice A' n c', .int .i64 x, .int .i64 (f0 : Int), .int .i64 (f1 : Int), .int .i64 (f2 : Int), .int .i64 (f3 : Int), .int .i64 (f4 : Int), .int .i64 (f5 : Int), .int .i64 (f6 : Int), .int .i64 (f7 : Int)] := by
              unfold insN
              rw [flat_snoc, hM.out, ← hnc.out]
              unfold Nd.cells newCells
              simp only [hn.out]
            have fin : SkAt (w5.setCell ⟨p, 0, none⟩ (.slice (some ⟨g5, 0, none⟩) (M + 1) cap5)) base p g5 cap5 (insN N T k ⟨K, x, A', c', []⟩) := by
              refine ⟨?_, ?_, ?_, hpb⟩
              · rw [hnl]
                exact kp5.store 0 _
              · rw [hnl, hfl]
                exact hown5.kept (grownBy_setCell' w5 p _) (.inr (by simp only [Value.ownBlock]; exact fun e => hpg5 (by cases e; rfl)))
              · intro d hd
                unfold insN at hd
                rcases List.mem_append.1 hd with h1 | h1
                · rw [hM.out] at h1
                  exact ⟨(hs.keys d h1).1.keep hS3 hty, (hs.keys d h1).2⟩
                · rw [List.mem_singleton.1 h1]
                  exact ⟨hk.keep hS3 hty, by show K.length ≤ _; rw [hn.out]; exact hn2⟩
            have hkf : KeepBut (fun b => b = p ∨ b = g) w (w5.setCell ⟨p, 0, none⟩ (.slice (some ⟨g5, 0, none⟩) (M + 1) cap5)) := (hkb.weak (fun _ _ e => .inr e)).trans hS3
            clear hld hrow hown1 kp1 hown5 hgrow5 hlie5 kp5 hc5 hf5 hr1 one1 hu hi hnc hff kx kt hbx hS0 hS1 hS2 hS3 hs hk hkb hfl hnl
            go_wp2
            go_ret
            exact ⟨g5, cap5, A', c', rfl, fin, hkf, hg5w, hA0.out⟩
          · go_simp
            refine hK.out _ _ (hS0.alloc _) (fun hS1 => ?_)
            clear hK K'
            try dsimp only [Act.put]
            try simp only [List.setIfInBounds_toArray, List.set_cons_zero, List.set_cons_succ]
            have hbx6 := ((hs.box).alloc (.cells #[.slice A' n c', .int .i64 x, .int .i64 (f0 : Int), .int .i64 (f1 : Int), .int .i64 (f2 : Int), .int .i64 (f3 : Int), .int .i64 (f4 : Int), .int .i64 (f5 : Int), .int .i64 (f6 : Int), .int .i64 (f7 : Int)] 54)).cell 0
            rw [hlen.out] at hbx6
            refine wpAnyH_ready (rs := [4]) (by kernel_rfl) (by simp) (AllReadyH.cons rfl (fun K' hK => ?_) AllReadyH.nil)
            go_simp
            refine hK.out _ _ hS1 (fun _ => ?_)
            clear hK K' hbx6
            try dsimp only [Act.put]
            try simp only [List.setIfInBounds_toArray, List.set_cons_zero, List.set_cons_succ]
            have hr1 : Rd (wr.drew.alloc (.cells #[.slice A' n c', .int .i64 x, .int .i64 (f0 : Int), .int .i64 (f1 : Int), .int .i64 (f2 : Int), .int .i64 (f3 : Int), .int .i64 (f4 : Int), .int .i64 (f5 : Int), .int .i64 (f6 : Int), .int .i64 (f7 : Int)] 54)) 10 (some ⟨wr.heap.size, 0, none⟩) 1 [.slice A' n c', .int .i64 x, .int .i64 (f0 : Int), .int .i64 (f1 : Int), .int .i64 (f2 : Int), .int .i64 (f3 : Int), .int .i64 (f4 : Int), .int .i64 (f5 : Int), .int .i64 (f6 : Int), .int .i64 (f7 : Int)] := (Blk.new wr.drew 54 #[.slice A' n c', .int .i64 x, .int .i64 (f0 : Int), .int .i64 (f1 : Int), .int .i64 (f2 : Int), .int .i64 (f3 : Int), .int .i64 (f4 : Int), .int .i64 (f5 : Int), .int .i64 (f6 : Int), .int .i64 (f7 : Int)]).rd rfl (fun j u hu => by simpa using hu)
            have one1 : ∀ u ∈ ([.slice A' n c', .int .i64 x, .int .i64 (f0 : Int), .int .i64 (f1 : Int), .int .i64 (f2 : Int), .int .i64 (f3 : Int), .int .i64 (f4 : Int), .int .i64 (f5 : Int), .int .i64 (f6 : Int), .int .i64 (f7 : Int)] : List Value), u.oneCell' = true := by
              intro u hu
              simp only [List.mem_cons, List.not_mem_nil, or_false] at hu
              rcases hu with rfl | rfl | rfl | rfl | rfl | rfl | rfl | rfl | rfl | rfl <;> rfl
            have hrow := hs.row
            rw [hlen.out] at hrow
            have hown1 := (hrow.drew).alloc (.cells #[.slice A' n c', .int .i64 x, .int .i64 (f0 : Int), .int .i64 (f1 : Int), .int .i64 (f2 : Int), .int .i64 (f3 : Int), .int .i64 (f4 : Int), .int .i64 (f5 : Int), .int .i64 (f6 : Int), .int .i64 (f7 : Int)] 54)
            have kp1 := (hs.box.drew).alloc (.cells #[.slice A' n c', .int .i64 x, .int .i64 (f0 : Int), .int .i64 (f1 : Int), .int .i64 (f2 : Int), .int .i64 (f3 : Int), .int .i64 (f4 : Int), .int .i64 (f5 : Int), .int .i64 (f6 : Int), .int .i64 (f7 : Int)] 54)
            have hpb := hs.pb
            have hplt := hs.lt.1
            refine wpAnyH_ready (rs := [7]) (by kernel_rfl) (by simp) (AllReadyH.cons rfl (fun K' hK => ?_) AllReadyH.nil)
            refine step_app _ (by rfl) (.tmp 97) (.tmp 99) (by rfl) Tryd.underlying43 infoN (by rfl) (by omega) hown1 (by rfl) _ 1 1 hr1 (by rfl) one1 (by unfold maxLen; omega) (by omega) (by simp; omega) ?_
            intro v5 w5 hown5 hgrow5 hlie5
            obtain ⟨g5, cap5, rfl, hg5, hg5'⟩ := hown5.form (by omega)
            have hS2 : KeepBut (fun b => b = p ∨ b = g) wr w5 := hS1.trans (KeepBut.of_grown hgrow5 (fun b e => .inr (by simp [Value.ownBlock] at e; omega)))
            have kp5 := kp1.grown hgrow5 (by simp [Value.ownBlock]; exact hs.ne)
            have hpg5 : p ≠ g5 := by
              rintro rfl
              rcases hown5.2 with ⟨h1, _⟩ | ⟨g', cap', cur, hv, _, hg, _⟩
              · cases h1
              · cases hv
                unfold Blk at kp5
                rw [kp5] at hg
                injection hg with hg
                injection hg with _ ht
                exact absurd ht (by decide)
            have hg5w : g5 = g ∨ w.heap.size ≤ g5 := by
              rcases hlie5 with h1 | h1
              · simp [Value.ownBlock] at h1; exact .inl h1
              · simp [Value.ownBlock] at h1; have := hkb.size; exact .inr (by omega)
            refine hK.out _ _ hS2 (fun _ => ?_)
            clear hK K'
            try dsimp only [Act.put]
            try simp only [List.setIfInBounds_toArray, List.set_cons_zero, List.set_cons_succ]
            refine wpAnyH_take (i := 8) (v := .pointer (some ⟨p, 0, none⟩)) rfl (by kernel_rfl) (by kernel_rfl) (by kernel_rfl) (fun _ _ _ h => h) (.inl ⟨by rfl, fun W hW => by go_simp⟩) hS2 ?_
            try dsimp only [Act.put]
            try simp only [List.setIfInBounds_toArray, List.set_cons_zero, List.set_cons_succ]
            refine wpAnyH_take (i := 9) (v := .pointer (some ⟨p, 0, none⟩)) rfl (by kernel_rfl) (by kernel_rfl) (by kernel_rfl) (fun _ _ _ h => h) (.inl ⟨by rfl, fun W hW => by go_simp⟩) hS2 ?_
            try dsimp only [Act.put]
            try simp only [List.setIfInBounds_toArray, List.set_cons_zero, List.set_cons_succ]
            have hc5 := kp5.cell 0
            have hf5 := kp5.frozen 0
            refine wpAnyH_ready (rs := [10]) (by kernel_rfl) (by simp) (AllReadyH.cons rfl (fun K' hK => ?_) AllReadyH.nil)
            have hS3 : KeepBut (fun b => b = p ∨ b = g) wr (w5.setCell ⟨p, 0, none⟩ (.slice (some ⟨g5, 0, none⟩) (M + 1) cap5)) := KeepBut.setCell (S := fun b => b = p ∨ b = g) (p := ⟨p, 0, none⟩) hS2 (.inl rfl) _
            go_simp
            refine hK.out _ _ hS3 (fun _ => ?_)
            clear hK K'
            try dsimp only [Act.put]
            try simp only [List.setIfInBounds_toArray, List.set_cons_zero, List.set_cons_succ]
            refine wpAnyH_done (by kernel_rfl) ?_ _
            have hty : ∀ b cs fr, wr.heap[b]? = some (.cells cs 5 fr) → ¬ (b = p ∨ b = g) := by
              rintro b cs fr hc (e | e)
              · have hb' := hs.box
                unfold Blk at hb'
                rw [e, hb'] at hc
                injection hc with hc
                injection hc with _ ht
                exact absurd ht (by decide)
              · obtain ⟨cur, hg, _⟩ := hs.gblk
                rw [e, hg] at hc
                injection hc with hc
                injection hc with _ ht
                exact absurd ht (by decide)
            have hnl : (insN N T k ⟨K, x, A', c', []⟩).length = M + 1 := by rw [insN_length, hM.out]
            have hfl : flat (insN N T k ⟨K, x, A', c', []⟩) = flat (stepN N T M k) ++ [.slice A' n c', .int .i64 x, .int .i64 (f0 : Int), .int .i64 (f1 : Int), .int .i64 (f2 : Int), .int .i64 (f3 : Int), .int .i64 (f4 : Int), .int .i64 (f5 : Int), .int .i64 (f6 : Int), .int .i64 (f7 : Int)] := by
              unfold insN
              rw [flat_snoc, hM.out, ← hnc.out]
              unfold Nd.cells newCells
              simp only [hn.out]
            have fin : SkAt (w5.setCell ⟨p, 0, none⟩ (.slice (some ⟨g5, 0, none⟩) (M + 1) cap5)) base p g5 cap5 (insN N T k ⟨K, x, A', c', []⟩) := by
              refine ⟨?_, ?_, ?_, hpb⟩
              · rw [hnl]
                exact kp5.store 0 _
              · rw [hnl, hfl]
                exact hown5.kept (grownBy_setCell' w5 p _) (.inr (by simp only [Value.ownBlock]; exact fun e => hpg5 (by cases e; rfl)))
              · intro d hd
                unfold insN at hd
                rcases List.mem_append.1 hd with h1 | h1
                · rw [hM.out] at h1
                  exact ⟨(hs.keys d h1).1.keep hS3 hty, (hs.keys d h1).2⟩
                · rw [List.mem_singleton.1 h1]
                  exact ⟨hk.keep hS3 hty, by show K.length ≤ _; rw [hn.out]; exact hn2⟩
            have hkf : KeepBut (fun b => b = p ∨ b = g) w (w5.setCell ⟨p, 0, none⟩ (.slice (some ⟨g5, 0, none⟩) (M + 1) cap5)) := (hkb.weak (fun _ _ e => .inr e)).trans hS3
            clear hld hrow hown1 kp1 hown5 hgrow5 hlie5 kp5 hc5 hf5 hr1 one1 hu hi hnc hff kx kt hbx hS0 hS1 hS2 hS3 hs hk hkb hfl hnl
            go_wp2
            go_ret
            exact ⟨g5, cap5, A', c', rfl, fin, hkf, hg5w, hA0.out⟩
  · go_enter Tryd.func8, Tryd.ntmps8
    rw [hr] at hcx hh
    simp only [List.headD_cons, List.head?_cons, Option.map_some, Option.getD_some] at hcx hh
    have hbl := I.lt b (rest_mem (K := K) (by rw [hr]; simp))
    have hbM : b < M := by rw [← hM.out]; exact hbl.2
    have hck := fun W (hW : Below w.heap.size w W) => (hS.below hW).cellKey I.ok8 hbl.2
    have hkk := fun W (hW : Below w.heap.size w W) => ((hS.below hW).keys _ (getD_mem hbl.2)).1.bs
    have hbk : ((N.getD b Nd.zero).key == K) = false := hh
    generalize N.getD b Nd.zero = d at hck hkk hbk
    obtain ⟨kb, nb, Ab, cb, xb⟩ := d
    simp only at hck hkk hbk
    obtain ⟨m, hm⟩ : ∃ m, kb.length = m := ⟨_, rfl⟩
    rw [hm] at hck
    replace hm := Lib.hid hm
    replace hck := Lib.hid hck
    replace hkk := Lib.hid hkk
    replace hbk := Lib.hid hbk
    replace hr := Lib.hid hr
    clear hh
    go_wp2_with fail
    refine ht.mono ?_
    clear ht
    rintro _ _ ⟨rfl, rfl⟩
    go_wp2_with fail
    refine ha.out.mono ?_
    clear ha
    rintro _ w1 ⟨rfl, b1⟩
    have kt : Blk (w1.alloc (.cells #[.int .i64 (T 0 : Int), .int .i64 (T 1 : Int), .int .i64 (T 2 : Int), .int .i64 (T 3 : Int), .int .i64 (T 4 : Int), .int .i64 (T 5 : Int), .int .i64 (T 6 : Int), .int .i64 (T 7 : Int)] 51)) w1.heap.size 51 #[.int .i64 (T 0 : Int), .int .i64 (T 1 : Int), .int .i64 (T 2 : Int), .int .i64 (T 3 : Int), .int .i64 (T 4 : Int), .int .i64 (T 5 : Int), .int .i64 (T 6 : Int), .int .i64 (T 7 : Int)] := Blk.new w1 _ _
    have b2 := b1.alloc b1.size (.cells #[.int .i64 (T 0 : Int), .int .i64 (T 1 : Int), .int .i64 (T 2 : Int), .int .i64 (T 3 : Int), .int .i64 (T 4 : Int), .int .i64 (T 5 : Int), .int .i64 (T 6 : Int), .int .i64 (T 7 : Int)] 51)
    have htlt : w.heap.size ≤ w1.heap.size := b1.size
    go_wp2_with fail
    generalize w1.alloc (.cells #[.int .i64 (T 0 : Int), .int .i64 (T 1 : Int), .int .i64 (T 2 : Int), .int .i64 (T 3 : Int), .int .i64 (T 4 : Int), .int .i64 (T 5 : Int), .int .i64 (T 6 : Int), .int .i64 (T 7 : Int)] 51) = w2 at *
    have c1 := kt.cell 0
    have c2 := hcx.out _ b2
    have c3 := hbx.out _ b2
    have c5 := hck.out _ b2
    have hbp : (0 : Int) < (b : Int) := by omega
    go_quiet (fail)
    rename_i nq
    have b3 := below_drewN b2 nq
    replace kt := kt.drewN nq
    have pe := equal_bs (w2.drewN nq) Ab A kb K m cb n c hm.out hn.out (hkk.out _ b3) (hb.below b3)
    rw [hbk.out] at pe
    go_wp2_with fail
    refine pe.mono ?_
    clear pe c5 hkk hck hbk hm hbp
    rintro _ _ ⟨rfl, rfl⟩
    go_wp2_with fail
    generalize w2.drewN nq = W0 at *
    generalize w1.heap.size = tw at *
    have pc := fun W (hW : Below w.heap.size w W) => clone_bs W A n c K hn.out hn2 (hb.below hW)
    replace pc := Lib.hid pc
    clear c1 c2 c3 b1 b2
    have hfol : Tryd.prog.follows .mixedOrders = true := by kernel_rfl
    have hS0 : Below w.heap.size w W0.drew := b3.drew
    refine wp_region_held (S := fun W => Below w.heap.size w W) hfol ?_
    refine wpAnyH_take (i := 0) (v := .slice A n c) rfl (by kernel_rfl) (by kernel_rfl) (by kernel_rfl) (fun _ _ _ h => h) (.inl ⟨by rfl, fun W hW => by go_simp⟩) hS0 ?_
    try dsimp only [Act.put]
    try simp only [List.setIfInBounds_toArray, List.set_cons_zero, List.set_cons_succ]
    refine wpAnyH_take (i := 2) (v := .int .i64 x) rfl (by kernel_rfl) (by kernel_rfl) (by kernel_rfl) (fun _ _ _ h => h) (.inl ⟨by rfl, fun W hW => by go_simp⟩) hS0 ?_
    try dsimp only [Act.put]
    try simp only [List.setIfInBounds_toArray, List.set_cons_zero, List.set_cons_succ]
    refine wpAnyH_take (i := 4) (v := .pointer (some ⟨p, 0, none⟩)) rfl (by kernel_rfl) (by kernel_rfl) (by kernel_rfl) (fun _ _ _ h => h) (.inl ⟨by rfl, fun W hW => by go_simp⟩) hS0 ?_
    try dsimp only [Act.put]
    try simp only [List.setIfInBounds_toArray, List.set_cons_zero, List.set_cons_succ]
    refine wpAnyH_take (i := 5) (v := .pointer (some ⟨p, 0, none⟩)) rfl (by kernel_rfl) (by kernel_rfl) (by kernel_rfl) (fun _ _ _ h => h) (.inl ⟨by rfl, fun W hW => by go_simp⟩) hS0 ?_
    try dsimp only [Act.put]
    try simp only [List.setIfInBounds_toArray, List.set_cons_zero, List.set_cons_succ]
    refine wpAnyH_take (i := 6) (v := .pointer (some ⟨p, 0, none⟩)) rfl (by kernel_rfl) (by kernel_rfl) (by kernel_rfl) (fun _ _ _ h => h) (.inl ⟨by rfl, fun W hW => by go_simp⟩) hS0 ?_
    try dsimp only [Act.put]
    try simp only [List.setIfInBounds_toArray, List.set_cons_zero, List.set_cons_succ]
    refine wpAnyH_take (i := 7) (v := .slice (some ⟨g, 0, none⟩) M cap) rfl (by kernel_rfl) (by kernel_rfl) (by kernel_rfl) (fun _ _ _ h => h) (.inl ⟨by rfl, fun W hW => by have := hbx.out W hW; go_simp⟩) hS0 ?_
    try dsimp only [Act.put]
    try simp only [List.setIfInBounds_toArray, List.set_cons_zero, List.set_cons_succ]
    refine wpAnyH_take (i := 8) (v := .int .i64 (M : Int)) rfl (by kernel_rfl) (by kernel_rfl) (by kernel_rfl) (fun _ _ _ h => h) (.inl ⟨by rfl, fun W hW => by go_simp⟩) hS0 ?_
    try dsimp only [Act.put]
    try simp only [List.setIfInBounds_toArray, List.set_cons_zero, List.set_cons_succ]
    refine wpAnyH_ready (rs := [1, 9]) (by kernel_rfl) (by simp) (AllReadyH.cons rfl (fun K' hK => ?_) (AllReadyH.cons rfl (fun K' hK => ?_) AllReadyH.nil))
    · go_simp
      go_at_call 20
      refine (pc.out _ hS0).mono ?_
      rintro _ w4 ⟨A', c', rfl, hown, b4⟩
      have hA0 : Hid (∀ a, A' = some a → w.heap.size ≤ a.block) := Lib.hid (fun a e => by
        rcases hown.2 with ⟨h, _⟩ | ⟨g1, _, _, h, hb1, _⟩
        · rw [e] at h; cases h
        · rw [e] at h; cases h; first | exact Nat.le_trans hS0.size hb1 | exact Nat.le_trans hS1.size hb1)
      have b5 := hS0.trans (b4.mono hS0.size)
      refine hK.out _ _ b5 (fun _ => ?_)
      clear hK K'
      try dsimp only [Act.put]
      try simp only [List.setIfInBounds_toArray, List.set_cons_zero, List.set_cons_succ]
      refine wpAnyH_take (i := 3) (v := .agg #[.slice A' n c', .int .i64 x, .int .i64 0, .int .i64 0, .int .i64 0, .int .i64 0, .int .i64 0, .int .i64 0, .int .i64 0, .int .i64 0]) rfl (by kernel_rfl) (by kernel_rfl) (by kernel_rfl) (fun _ _ _ h => h) (.inl ⟨by rfl, fun W hW => by go_simp⟩) b5 ?_
      try dsimp only [Act.put]
      try simp only [List.setIfInBounds_toArray, List.set_cons_zero, List.set_cons_succ]
      refine wpAnyH_ready (rs := [9]) (by kernel_rfl) (by simp) (AllReadyH.cons rfl (fun K' hK => ?_) AllReadyH.nil)
      go_simp
      refine hK.out _ _ (b5.alloc b5.size _) (fun hS1 => ?_)
      clear hK K'
      try dsimp only [Act.put]
      try simp only [List.setIfInBounds_toArray, List.set_cons_zero, List.set_cons_succ]
      have kx : Blk (w4.alloc (.cells #[.slice none 0 0, .int .i64 0, .int .i64 0, .int .i64 0, .int .i64 0, .int .i64 0, .int .i64 0, .int .i64 0, .int .i64 0, .int .i64 0] 54)) w4.heap.size 54 #[.slice none 0 0, .int .i64 0, .int .i64 0, .int .i64 0, .int .i64 0, .int .i64 0, .int .i64 0, .int .i64 0, .int .i64 0, .int .i64 0] := Blk.new w4 _ _
      refine wpAnyH_ready (rs := [10]) (by kernel_rfl) (by simp) (AllReadyH.cons rfl (fun K' hK => ?_) AllReadyH.nil)
      rw [if_pos (by rfl)]
      refine wp_store_row 54 _ _ rfl w4.heap.size (newCells K x A' n c' (List.replicate 8 0)).toArray rfl rfl _ _ kx (by kernel_rfl) rfl (newCells_one _ _ _ _ _ _) ?_
      refine hK.out _ _ (below_setRow' hS1 b5.size _) (fun hS2 => ?_)
      clear hK K'
      try dsimp only [Act.put]
      try simp only [List.setIfInBounds_toArray, List.set_cons_zero, List.set_cons_succ]
      refine wpAnyH_take (i := 11) (v := .int .i64 (M : Int)) rfl (by kernel_rfl) (by kernel_rfl) (by kernel_rfl) (fun _ _ _ h => h) (.inl ⟨by rfl, fun W hW => by go_simp⟩) hS2 ?_
      try dsimp only [Act.put]
      try simp only [List.setIfInBounds_toArray, List.set_cons_zero, List.set_cons_succ]
      refine wpAnyH_done (by kernel_rfl) ?_ _
      have q45 := below_setRow' (g := w4.heap.size) ((Below.refl w4.heap.size w4).alloc (Nat.le_refl _) (.cells #[.slice none 0 0, .int .i64 0, .int .i64 0, .int .i64 0, .int .i64 0, .int .i64 0, .int .i64 0, .int .i64 0, .int .i64 0, .int .i64 0] 54)) (Nat.le_refl _) (newCells K x A' n c' (List.replicate 8 0)).toArray
      have q05 : Below W0.heap.size W0 _ := ((Below.refl W0.heap.size W0).drew.trans b4).trans (q45.mono b4.size)
      replace kx := kx.setRow (newCells K x A' n c' (List.replicate 8 0)).toArray
      have hk := (own_keyAt hown).keep (S := fun _ => False) (KeepBut.of_below q45) (fun _ _ _ _ e => e)
      replace kt := kt.below q05 kt.lt
      have hXw := b5.size
      obtain ⟨X, hX⟩ : ∃ X, w4.heap.size = X := ⟨_, rfl⟩
      rw [hX] at kx hk kt hS2 hXw ⊢
      clear q45 q05 hX hS1 b5 b4 hown hS0
      generalize (w4.alloc (.cells #[.slice none 0 0, .int .i64 0, .int .i64 0, .int .i64 0, .int .i64 0, .int .i64 0, .int .i64 0, .int .i64 0, .int .i64 0, .int .i64 0] 54)).setRow X (newCells K x A' n c' (List.replicate 8 0)).toArray = W5 at *
      clear hcx hbx pc hfol hnx hr
      have hfol : Tryd.prog.follows .mixedOrders = true := by kernel_rfl
      have hgX : g ≠ X := by have := hS.lt.2; omega
      have hpX : p ≠ X := by have := hS.lt.1; omega
      have htX : tw ≠ X := kt.ne_ kx (by decide)
      have htg : tw ≠ g := by have := hS.lt.2; omega
      have htp : tw ≠ p := by have := hS.lt.1; omega
      have hkb5 : KeepBut (fun b => b = g) w W5 := KeepBut.of_below hS2
      have hs5 : SkAt W5 base p g cap (stepN N T M 0) := hS.below hS2
      replace kx : Blk W5 X 54 (newCells K x A' n c' (newNx N T 0)).toArray := kx
      have h8N := I.ok8
      have hTM' := hTM.out
      have hTN : ∀ f, T f < N.length := fun f => by rw [hM.out]; exact hTM' f
      replace hTN := Lib.hid hTN
      clear hTM' hS2 b3
      go_wp2
      go_loopw [62] (fun i wr => ∃ k : Nat, k ≤ H ∧ i = .int .i64 (k : Int) ∧ SkAt wr base p g cap (stepN N T M k) ∧ Blk wr tw 51 #[.int .i64 (T 0 : Int), .int .i64 (T 1 : Int), .int .i64 (T 2 : Int), .int .i64 (T 3 : Int), .int .i64 (T 4 : Int), .int .i64 (T 5 : Int), .int .i64 (T 6 : Int), .int .i64 (T 7 : Int)] ∧ Blk wr X 54 (newCells K x A' n c' (newNx N T k)).toArray ∧ KeyAt wr 5 A' K ∧ KeepBut (fun b => b = g) w wr) (fun i _ => H - (intOf i).toNat)
      case atStart => exact ⟨0, by omega, rfl, hs5, kt, kx, hk, hkb5⟩
      case round =>
        clear hs5 kt kx hk hkb5
        obtain ⟨k, hkH, rfl, hs, kt, kx, hk, hkb⟩ := hrel
        have hlen : (stepN N T M k).length = M := by rw [stepN_length]; exact hM.out
        have h8k := stepN_ok h8N T M k
        have hbx := hs.box.cell 0
        rw [hlen] at hbx
        by_cases hlt : k < H
        · have hk8 : k < 8 := by omega
          have hTk := hTM.out k
          have hct := kt.cell k
          rw [← tow_lit, List.getElem?_toArray, towL_get _ _ _ hk8, if_pos (by omega)] at hct
          have hcx := hs.cellNx h8k (show T k < (stepN N T M k).length by rw [hlen]; exact hTk) hk8
          rw [stepN_nx hTN.out h8N k (by omega), if_neg (by omega)] at hcx
          obtain ⟨v, hv⟩ : ∃ v, nxOf N k (T k) = v := ⟨_, rfl⟩
          rw [hv] at hcx
          have hxc := kx.cell (2 + k)
          rw [newCells_get _ _ _ _ _ _ _ (by rw [newNx_length]; exact hk8)] at hxc
          have hxf := kx.frozen (2 + k)
          have kx' := kx.store (2 + k) (.int .i64 (v : Int))
          rw [newCells_set, ← hv] at kx'
          replace kx' : Blk (wr.setCell ⟨X, 2 + k, none⟩ (.int .i64 (v : Int))) X 54 (newCells K x A' n c' (newNx N T (k + 1))).toArray := by rw [← hv]; exact kx'
          have hkpX : KeepBut (fun b => b = X) wr (wr.setCell ⟨X, 2 + k, none⟩ (.int .i64 (v : Int))) := KeepBut.set_at wr X (2 + k) _
          have hs' := hs.keep hkpX hpX hgX (fun b cs fr hc e => by
            rw [e, kx] at hc
            injection hc with hc
            injection hc with _ ht
            exact absurd ht (by decide))
          have hk' := hk.store (p := ⟨X, 2 + k, none⟩) kx (by decide) (.int .i64 (v : Int))
          have kt' := kt.far (p := ⟨X, 2 + k, none⟩) htX (.int .i64 (v : Int))
          have hkb' := KeepBut.setCell_new (p := ⟨X, 2 + k, none⟩) hkb hXw (.int .i64 (v : Int))
          have hct' := kt'.cell k
          rw [← tow_lit, List.getElem?_toArray, towL_get _ _ _ hk8, if_pos (by omega)] at hct'
          have hcx' := hs'.cellNx h8k (show T k < (stepN N T M k).length by rw [hlen]; exact hTk) hk8
          have hcf' := hs'.row.frozenAt (T k * 10 + 2 + k)
          have hbx' := hs'.box.cell 0
          rw [hlen] at hbx'
          have hs2 := hs'.setNx h8k (show T k < (stepN N T M k).length by rw [hlen]; exact hTk) hk8 M
          have hk2 := hk'.store (p := ⟨g, T k * 10 + 2 + k, none⟩) hs'.gblk.choose_spec.1 (by decide) (.int .i64 (M : Int))
          have kt2 := kt'.far (p := ⟨g, T k * 10 + 2 + k, none⟩) htg (.int .i64 (M : Int))
          have kx2 := kx'.far (p := ⟨g, T k * 10 + 2 + k, none⟩) (fun e => hgX e.symm) (.int .i64 (M : Int))
          have hkb2 := KeepBut.setCell (S := fun b => b = g) (p := ⟨g, T k * 10 + 2 + k, none⟩) hkb' rfl (.int .i64 (M : Int))
          have k0i : (0 : Int) ≤ (k : Int) := by omega
          have k8i : (k : Int) < 8 := by omega
          have t0i : (0 : Int) ≤ (T k : Int) := by omega
          have tMi : (T k : Int) < (M : Int) := by omega
          replace hv := Lib.hid hv
          replace hlen := Lib.hid hlen
          clear hs hk kt kx hkb hkpX hs' hk' kt' kx' hkb'
          go_wp2_with fail
          refine still_tail 15 hfol (by kernel_rfl) ?_
          simp only [List.take_succ_cons, List.take_zero, List.drop_succ_cons, List.drop_zero]
          iterate 15 still_step
          refine wpStill_nil ?_
          go_wp2_with fail
          refine still_tail 12 hfol (by kernel_rfl) ?_
          simp only [List.take_succ_cons, List.take_zero, List.drop_succ_cons, List.drop_zero]
          iterate 12 still_step
          refine wpStill_nil ?_
          go_wp2
          go_roundw
          case rel => exact ⟨k + 1, by omega, by go_num, hs2.drew.drew, kt2, kx2, hk2, hkb2.drew.drew⟩
          case measure => simp [intOf] <;> omega
        · obtain rfl : k = H := by omega
          obtain ⟨f0, f1, f2, f3, f4, f5, f6, f7, hff⟩ := eight (newNx_length N T k)
          have hnc : newCells K x A' n c' (newNx N T k) = [.slice A' n c', .int .i64 x, .int .i64 (f0 : Int), .int .i64 (f1 : Int), .int .i64 (f2 : Int), .int .i64 (f3 : Int), .int .i64 (f4 : Int), .int .i64 (f5 : Int), .int .i64 (f6 : Int), .int .i64 (f7 : Int)] := by rw [hff]; rfl
          rw [hnc] at kx
          replace hnc := Lib.hid hnc
          replace hff := Lib.hid hff
          have hld := fun (W : World) (hW : KeepBut (fun b => b = p ∨ b = g) wr W) => (show W.rangeAt X 0 [.slice A' n c', .int .i64 x, .int .i64 (f0 : Int), .int .i64 (f1 : Int), .int .i64 (f2 : Int), .int .i64 (f3 : Int), .int .i64 (f4 : Int), .int .i64 (f5 : Int), .int .i64 (f6 : Int), .int .i64 (f7 : Int)] from fun j v hv => by
            rw [Nat.zero_add, cell_of_row W X j _ _ _ ((hW.block X kx.lt (by rintro (e | e) <;> omega)).trans kx)]
            simpa using hv)
          replace hld := Lib.hid hld
          have hS0 : KeepBut (fun b => b = p ∨ b = g) wr wr.drew := (KeepBut.refl wr).drew
          have hu := Tryd.underlying54
          have hi := node_size
          replace hlen := Lib.hid hlen
          replace hkH := Lib.hid hkH
          go_wp2_with fail
          refine wp_region_held (S := fun W => KeepBut (fun b => b = p ∨ b = g) wr W) hfol ?_
          refine wpAnyH_take (i := 0) (v := .pointer (some ⟨p, 0, none⟩)) rfl (by kernel_rfl) (by kernel_rfl) (by kernel_rfl) (fun _ _ _ h => h) (.inl ⟨by rfl, fun W hW => by go_simp⟩) hS0 ?_
          try dsimp only [Act.put]
          try simp only [List.setIfInBounds_toArray, List.set_cons_zero, List.set_cons_succ]
          refine wpAnyH_take (i := 1) (v := .pointer (some ⟨p, 0, none⟩)) rfl (by kernel_rfl) (by kernel_rfl) (by kernel_rfl) (fun _ _ _ h => h) (.inl ⟨by rfl, fun W hW => by go_simp⟩) hS0 ?_
          try dsimp only [Act.put]
          try simp only [List.setIfInBounds_toArray, List.set_cons_zero, List.set_cons_succ]
          refine wpAnyH_take (i := 2) (v := .pointer (some ⟨p, 0, none⟩)) rfl (by kernel_rfl) (by kernel_rfl) (by kernel_rfl) (fun _ _ _ h => h) (.inl ⟨by rfl, fun W hW => by go_simp⟩) hS0 ?_
          try dsimp only [Act.put]
          try simp only [List.setIfInBounds_toArray, List.set_cons_zero, List.set_cons_succ]
          refine wpAnyH_take (i := 3) (v := .pointer (some ⟨p, 0, none⟩)) rfl (by kernel_rfl) (by kernel_rfl) (by kernel_rfl) (fun _ _ _ h => h) (.inl ⟨by rfl, fun W hW => by go_simp⟩) hS0 ?_
          try dsimp only [Act.put]
          try simp only [List.setIfInBounds_toArray, List.set_cons_zero, List.set_cons_succ]
          refine wpAnyH_take (i := 5) (v := .agg #[.slice A' n c', .int .i64 x, .int .i64 (f0 : Int), .int .i64 (f1 : Int), .int .i64 (f2 : Int), .int .i64 (f3 : Int), .int .i64 (f4 : Int), .int .i64 (f5 : Int), .int .i64 (f6 : Int), .int .i64 (f7 : Int)]) rfl (by kernel_rfl) (by kernel_rfl) (by kernel_rfl) (fun _ _ _ h => h) (yieldsIf_load_mid (by rfl) 54 (.tmp 11) rfl X 0 rfl [.slice A' n c', .int .i64 x, .int .i64 (f0 : Int), .int .i64 (f1 : Int), .int .i64 (f2 : Int), .int .i64 (f3 : Int), .int .i64 (f4 : Int), .int .i64 (f5 : Int), .int .i64 (f6 : Int), .int .i64 (f7 : Int)] _ hld.out hu rfl hi) hS0 ?_
          try dsimp only [Act.put]
          try simp only [List.setIfInBounds_toArray, List.set_cons_zero, List.set_cons_succ]
          refine wpAnyH_ready (rs := [4, 6]) (by kernel_rfl) (by simp) (AllReadyH.cons rfl (fun K' hK => ?_) (AllReadyH.cons rfl (fun K' hK => ?_) AllReadyH.nil))
          · go_simp
            refine hK.out _ _ hS0 (fun _ => ?_)
            clear hK K'
            try dsimp only [Act.put]
            try simp only [List.setIfInBounds_toArray, List.set_cons_zero, List.set_cons_succ]
            refine wpAnyH_ready (rs := [6]) (by kernel_rfl) (by simp) (AllReadyH.cons rfl (fun K' hK => ?_) AllReadyH.nil)
            go_simp
            refine hK.out _ _ (hS0.alloc _) (fun hS1 => ?_)
            clear hK K'
            try dsimp only [Act.put]
            try simp only [List.setIfInBounds_toArray, List.set_cons_zero, List.set_cons_succ]
            have hr1 : Rd (wr.drew.alloc (.cells #[.slice A' n c', .int .i64 x, .int .i64 (f0 : Int), .int .i64 (f1 : Int), .int .i64 (f2 : Int), .int .i64 (f3 : Int), .int .i64 (f4 : Int), .int .i64 (f5 : Int), .int .i64 (f6 : Int), .int .i64 (f7 : Int)] 54)) 10 (some ⟨wr.heap.size, 0, none⟩) 1 [.slice A' n c', .int .i64 x, .int .i64 (f0 : Int), .int .i64 (f1 : Int), .int .i64 (f2 : Int), .int .i64 (f3 : Int), .int .i64 (f4 : Int), .int .i64 (f5 : Int), .int .i64 (f6 : Int), .int .i64 (f7 : Int)] := (Blk.new wr.drew 54 #[.slice A' n c', .int .i64 x, .int .i64 (f0 : Int), .int .i64 (f1 : Int), .int .i64 (f2 : Int), .int .i64 (f3 : Int), .int .i64 (f4 : Int), .int .i64 (f5 : Int), .int .i64 (f6 : Int), .int .i64 (f7 : Int)]).rd rfl (fun j u hu => by simpa using hu)
            have one1 : ∀ u ∈ ([.slice A' n c', .int .i64 x, .int .i64 (f0 : Int), .int .i64 (f1 : Int), .int .i64 (f2 : Int), .int .i64 (f3 : Int), .int .i64 (f4 : Int), .int .i64 (f5 : Int), .int .i64 (f6 : Int), .int .i64 (f7 : Int)] : List Value), u.oneCell' = true := by
              intro u hu
              simp only [List.mem_cons, List.not_mem_nil, or_false] at hu
              rcases hu with rfl | rfl | rfl | rfl | rfl | rfl | rfl | rfl | rfl | rfl <;> rfl
            have hrow := hs.row
            rw [hlen.out] at hrow
            have hown1 := (hrow.drew).alloc (.cells #[.slice A' n c', .int .i64 x, .int .i64 (f0 : Int), .int .i64 (f1 : Int), .int .i64 (f2 : Int), .int .i64 (f3 : Int), .int .i64 (f4 : Int), .int .i64 (f5 : Int), .int .i64 (f6 : Int), .int .i64 (f7 : Int)] 54)
            have kp1 := (hs.box.drew).alloc (.cells #[.slice A' n c', .int .i64 x, .int .i64 (f0 : Int), .int .i64 (f1 : Int), .int .i64 (f2 : Int), .int .i64 (f3 : Int), .int .i64 (f4 : Int), .int .i64 (f5 : Int), .int .i64 (f6 : Int), .int .i64 (f7 : Int)] 54)
            have hpb := hs.pb
            have hplt := hs.lt.1
            refine wpAnyH_ready (rs := [7]) (by kernel_rfl) (by simp) (AllReadyH.cons rfl (fun K' hK => ?_) AllReadyH.nil)
            refine step_app _ (by rfl) (.tmp 97) (.tmp 99) (by rfl) Tryd.underlying43 infoN (by rfl) (by omega) hown1 (by rfl) _ 1 1 hr1 (by rfl) one1 (by unfold maxLen; omega) (by omega) (by simp; omega) ?_
            intro v5 w5 hown5 hgrow5 hlie5
            obtain ⟨g5, cap5, rfl, hg5, hg5'⟩ := hown5.form (by omega)
            have hS2 : KeepBut (fun b => b = p ∨ b = g) wr w5 := hS1.trans (KeepBut.of_grown hgrow5 (fun b e => .inr (by simp [Value.ownBlock] at e; omega)))
            have kp5 := kp1.grown hgrow5 (by simp [Value.ownBlock]; exact hs.ne)
            have hpg5 : p ≠ g5 := by
              rintro rfl
              rcases hown5.2 with ⟨h1, _⟩ | ⟨g', cap', cur, hv, _, hg, _⟩
              · cases h1
              · cases hv
                unfold Blk at kp5
                rw [kp5] at hg
                injection hg with hg
                injection hg with _ ht
                exact absurd ht (by decide)
            have hg5w : g5 = g ∨ w.heap.size ≤ g5 := by
              rcases hlie5 with h1 | h1
              · simp [Value.ownBlock] at h1; exact .inl h1
              · simp [Value.ownBlock] at h1; have := hkb.size; exact .inr (by omega)
            refine hK.out _ _ hS2 (fun _ => ?_)
            clear hK K'
            try dsimp only [Act.put]
            try simp only [List.setIfInBounds_toArray, List.set_cons_zero, List.set_cons_succ]
            refine wpAnyH_take (i := 8) (v := .pointer (some ⟨p, 0, none⟩)) rfl (by kernel_rfl) (by kernel_rfl) (by kernel_rfl) (fun _ _ _ h => h) (.inl ⟨by rfl, fun W hW => by go_simp⟩) hS2 ?_
            try dsimp only [Act.put]
            try simp only [List.setIfInBounds_toArray, List.set_cons_zero, List.set_cons_succ]
            refine wpAnyH_take (i := 9) (v := .pointer (some ⟨p, 0, none⟩)) rfl (by kernel_rfl) (by kernel_rfl) (by kernel_rfl) (fun _ _ _ h => h) (.inl ⟨by rfl, fun W hW => by go_simp⟩) hS2 ?_
            try dsimp only [Act.put]
            try simp only [List.setIfInBounds_toArray, List.set_cons_zero, List.set_cons_succ]
            have hc5 := kp5.cell 0
            have hf5 := kp5.frozen 0
            refine wpAnyH_ready (rs := [10]) (by kernel_rfl) (by simp) (AllReadyH.cons rfl (fun K' hK => ?_) AllReadyH.nil)
            have hS3 : KeepBut (fun b => b = p ∨ b = g) wr (w5.setCell ⟨p, 0, none⟩ (.slice (some ⟨g5, 0, none⟩) (M + 1) cap5)) := KeepBut.setCell (S := fun b => b = p ∨ b = g) (p := ⟨p, 0, none⟩) hS2 (.inl rfl) _
            go_simp
            refine hK.out _ _ hS3 (fun _ => ?_)
            clear hK K'
            try dsimp only [Act.put]
            try simp only [List.setIfInBounds_toArray, List.set_cons_zero, List.set_cons_succ]
            refine wpAnyH_done (by kernel_rfl) ?_ _
            have hty : ∀ b cs fr, wr.heap[b]? = some (.cells cs 5 fr) → ¬ (b = p ∨ b = g) := by
              rintro b cs fr hc (e | e)
              · have hb' := hs.box
                unfold Blk at hb'
                rw [e, hb'] at hc
                injection hc with hc
                injection hc with _ ht
                exact absurd ht (by decide)
              · obtain ⟨cur, hg, _⟩ := hs.gblk
                rw [e, hg] at hc
                injection hc with hc
                injection hc with _ ht
                exact absurd ht (by decide)
            have hnl : (insN N T k ⟨K, x, A', c', []⟩).length = M + 1 := by rw [insN_length, hM.out]
            have hfl : flat (insN N T k ⟨K, x, A', c', []⟩) = flat (stepN N T M k) ++ [.slice A' n c', .int .i64 x, .int .i64 (f0 : Int), .int .i64 (f1 : Int), .int .i64 (f2 : Int), .int .i64 (f3 : Int), .int .i64 (f4 : Int), .int .i64 (f5 : Int), .int .i64 (f6 : Int), .int .i64 (f7 : Int)] := by
              unfold insN
              rw [flat_snoc, hM.out, ← hnc.out]
              unfold Nd.cells newCells
              simp only [hn.out]
            have fin : SkAt (w5.setCell ⟨p, 0, none⟩ (.slice (some ⟨g5, 0, none⟩) (M + 1) cap5)) base p g5 cap5 (insN N T k ⟨K, x, A', c', []⟩) := by
              refine ⟨?_, ?_, ?_, hpb⟩
              · rw [hnl]
                exact kp5.store 0 _
              · rw [hnl, hfl]
                exact hown5.kept (grownBy_setCell' w5 p _) (.inr (by simp only [Value.ownBlock]; exact fun e => hpg5 (by cases e; rfl)))
              · intro d hd
                unfold insN at hd
                rcases List.mem_append.1 hd with h1 | h1
                · rw [hM.out] at h1
                  exact ⟨(hs.keys d h1).1.keep hS3 hty, (hs.keys d h1).2⟩
                · rw [List.mem_singleton.1 h1]
                  exact ⟨hk.keep hS3 hty, by show K.length ≤ _; rw [hn.out]; exact hn2⟩
            have hkf : KeepBut (fun b => b = p ∨ b = g) w (w5.setCell ⟨p, 0, none⟩ (.slice (some ⟨g5, 0, none⟩) (M + 1) cap5)) := (hkb.weak (fun _ _ e => .inr e)).trans hS3
            clear hld hrow hown1 kp1 hown5 hgrow5 hlie5 kp5 hc5 hf5 hr1 one1 hu hi hnc hff kx kt hbx hS0 hS1 hS2 hS3 hs hk hkb hfl hnl
            go_wp2
            go_ret
            exact ⟨g5, cap5, A', c', rfl, fin, hkf, hg5w, hA0.out⟩
          · go_simp
            refine hK.out _ _ (hS0.alloc _) (fun hS1 => ?_)
            clear hK K'
            try dsimp only [Act.put]
            try simp only [List.setIfInBounds_toArray, List.set_cons_zero, List.set_cons_succ]
            have hbx6 := ((hs.box).alloc (.cells #[.slice A' n c', .int .i64 x, .int .i64 (f0 : Int), .int .i64 (f1 : Int), .int .i64 (f2 : Int), .int .i64 (f3 : Int), .int .i64 (f4 : Int), .int .i64 (f5 : Int), .int .i64 (f6 : Int), .int .i64 (f7 : Int)] 54)).cell 0
            rw [hlen.out] at hbx6
            refine wpAnyH_ready (rs := [4]) (by kernel_rfl) (by simp) (AllReadyH.cons rfl (fun K' hK => ?_) AllReadyH.nil)
            go_simp
            refine hK.out _ _ hS1 (fun _ => ?_)
            clear hK K' hbx6
            try dsimp only [Act.put]
            try simp only [List.setIfInBounds_toArray, List.set_cons_zero, List.set_cons_succ]
            have hr1 : Rd (wr.drew.alloc (.cells #[.slice A' n c', .int .i64 x, .int .i64 (f0 : Int), .int .i64 (f1 : Int), .int .i64 (f2 : Int), .int .i64 (f3 : Int), .int .i64 (f4 : Int), .int .i64 (f5 : Int), .int .i64 (f6 : Int), .int .i64 (f7 : Int)] 54)) 10 (some ⟨wr.heap.size, 0, none⟩) 1 [.slice A' n c', .int .i64 x, .int .i64 (f0 : Int), .int .i64 (f1 : Int), .int .i64 (f2 : Int), .int .i64 (f3 : Int), .int .i64 (f4 : Int), .int .i64 (f5 : Int), .int .i64 (f6 : Int), .int .i64 (f7 : Int)] := (Blk.new wr.drew 54 #[.slice A' n c', .int .i64 x, .int .i64 (f0 : Int), .int .i64 (f1 : Int), .int .i64 (f2 : Int), .int .i64 (f3 : Int), .int .i64 (f4 : Int), .int .i64 (f5 : Int), .int .i64 (f6 : Int), .int .i64 (f7 : Int)]).rd rfl (fun j u hu => by simpa using hu)
            have one1 : ∀ u ∈ ([.slice A' n c', .int .i64 x, .int .i64 (f0 : Int), .int .i64 (f1 : Int), .int .i64 (f2 : Int), .int .i64 (f3 : Int), .int .i64 (f4 : Int), .int .i64 (f5 : Int), .int .i64 (f6 : Int), .int .i64 (f7 : Int)] : List Value), u.oneCell' = true := by
              intro u hu
              simp only [List.mem_cons, List.not_mem_nil, or_false] at hu
              rcases hu with rfl | rfl | rfl | rfl | rfl | rfl | rfl | rfl | rfl | rfl <;> rfl
            have hrow := hs.row
            rw [hlen.out] at hrow
            have hown1 := (hrow.drew).alloc (.cells #[.slice A' n c', .int .i64 x, .int .i64 (f0 : Int), .int .i64 (f1 : Int), .int .i64 (f2 : Int), .int .i64 (f3 : Int), .int .i64 (f4 : Int), .int .i64 (f5 : Int), .int .i64 (f6 : Int), .int .i64 (f7 : Int)] 54)
            have kp1 := (hs.box.drew).alloc (.cells #[.slice A' n c', .int .i64 x, .int .i64 (f0 : Int), .int .i64 (f1 : Int), .int .i64 (f2 : Int), .int .i64 (f3 : Int), .int .i64 (f4 : Int), .int .i64 (f5 : Int), .int .i64 (f6 : Int), .int .i64 (f7 : Int)] 54)
            have hpb := hs.pb
            have hplt := hs.lt.1
            refine wpAnyH_ready (rs := [7]) (by kernel_rfl) (by simp) (AllReadyH.cons rfl (fun K' hK => ?_) AllReadyH.nil)
            refine step_app _ (by rfl) (.tmp 97) (.tmp 99) (by rfl) Tryd.underlying43 infoN (by rfl) (by omega) hown1 (by rfl) _ 1 1 hr1 (by rfl) one1 (by unfold maxLen; omega) (by omega) (by simp; omega) ?_
            intro v5 w5 hown5 hgrow5 hlie5
            obtain ⟨g5, cap5, rfl, hg5, hg5'⟩ := hown5.form (by omega)
            have hS2 : KeepBut (fun b => b = p ∨ b = g) wr w5 := hS1.trans (KeepBut.of_grown hgrow5 (fun b e => .inr (by simp [Value.ownBlock] at e; omega)))
            have kp5 := kp1.grown hgrow5 (by simp [Value.ownBlock]; exact hs.ne)
            have hpg5 : p ≠ g5 := by
              rintro rfl
              rcases hown5.2 with ⟨h1, _⟩ | ⟨g', cap', cur, hv, _, hg, _⟩
              · cases h1
              · cases hv
                unfold Blk at kp5
                rw [kp5] at hg
                injection hg with hg
                injection hg with _ ht
                exact absurd ht (by decide)
            have hg5w : g5 = g ∨ w.heap.size ≤ g5 := by
              rcases hlie5 with h1 | h1
              · simp [Value.ownBlock] at h1; exact .inl h1
              · simp [Value.ownBlock] at h1; have := hkb.size; exact .inr (by omega)
            refine hK.out _ _ hS2 (fun _ => ?_)
            clear hK K'
            try dsimp only [Act.put]
            try simp only [List.setIfInBounds_toArray, List.set_cons_zero, List.set_cons_succ]
            refine wpAnyH_take (i := 8) (v := .pointer (some ⟨p, 0, none⟩)) rfl (by kernel_rfl) (by kernel_rfl) (by kernel_rfl) (fun _ _ _ h => h) (.inl ⟨by rfl, fun W hW => by go_simp⟩) hS2 ?_
            try dsimp only [Act.put]
            try simp only [List.setIfInBounds_toArray, List.set_cons_zero, List.set_cons_succ]
            refine wpAnyH_take (i := 9) (v := .pointer (some ⟨p, 0, none⟩)) rfl (by kernel_rfl) (by kernel_rfl) (by kernel_rfl) (fun _ _ _ h => h) (.inl ⟨by rfl, fun W hW => by go_simp⟩) hS2 ?_
            try dsimp only [Act.put]
            try simp only [List.setIfInBounds_toArray, List.set_cons_zero, List.set_cons_succ]
            have hc5 := kp5.cell 0
            have hf5 := kp5.frozen 0
            refine wpAnyH_ready (rs := [10]) (by kernel_rfl) (by simp) (AllReadyH.cons rfl (fun K' hK => ?_) AllReadyH.nil)
            have hS3 : KeepBut (fun b => b = p ∨ b = g) wr (w5.setCell ⟨p, 0, none⟩ (.slice (some ⟨g5, 0, none⟩) (M + 1) cap5)) := KeepBut.setCell (S := fun b => b = p ∨ b = g) (p := ⟨p, 0, none⟩) hS2 (.inl rfl) _
            go_simp
            refine hK.out _ _ hS3 (fun _ => ?_)
            clear hK K'
            try dsimp only [Act.put]
            try simp only [List.setIfInBounds_toArray, List.set_cons_zero, List.set_cons_succ]
            refine wpAnyH_done (by kernel_rfl) ?_ _
            have hty : ∀ b cs fr, wr.heap[b]? = some (.cells cs 5 fr) → ¬ (b = p ∨ b = g) := by
              rintro b cs fr hc (e | e)
              · have hb' := hs.box
                unfold Blk at hb'
                rw [e, hb'] at hc
                injection hc with hc
                injection hc with _ ht
                exact absurd ht (by decide)
              · obtain ⟨cur, hg, _⟩ := hs.gblk
                rw [e, hg] at hc
                injection hc with hc
                injection hc with _ ht
                exact absurd ht (by decide)
            have hnl : (insN N T k ⟨K, x, A', c', []⟩).length = M + 1 := by rw [insN_length, hM.out]
            have hfl : flat (insN N T k ⟨K, x, A', c', []⟩) = flat (stepN N T M k) ++ [.slice A' n c', .int .i64 x, .int .i64 (f0 : Int), .int .i64 (f1 : Int), .int .i64 (f2 : Int), .int .i64 (f3 : Int), .int .i64 (f4 : Int), .int .i64 (f5 : Int), .int .i64 (f6 : Int), .int .i64 (f7 : Int)] := by
              unfold insN
              rw [flat_snoc, hM.out, ← hnc.out]
              unfold Nd.cells newCells
              simp only [hn.out]
            have fin : SkAt (w5.setCell ⟨p, 0, none⟩ (.slice (some ⟨g5, 0, none⟩) (M + 1) cap5)) base p g5 cap5 (insN N T k ⟨K, x, A', c', []⟩) := by
              refine ⟨?_, ?_, ?_, hpb⟩
              · rw [hnl]
                exact kp5.store 0 _
              · rw [hnl, hfl]
                exact hown5.kept (grownBy_setCell' w5 p _) (.inr (by simp only [Value.ownBlock]; exact fun e => hpg5 (by cases e; rfl)))
              · intro d hd
                unfold insN at hd
                rcases List.mem_append.1 hd with h1 | h1
                · rw [hM.out] at h1
                  exact ⟨(hs.keys d h1).1.keep hS3 hty, (hs.keys d h1).2⟩
                · rw [List.mem_singleton.1 h1]
                  exact ⟨hk.keep hS3 hty, by show K.length ≤ _; rw [hn.out]; exact hn2⟩
            have hkf : KeepBut (fun b => b = p ∨ b = g) w (w5.setCell ⟨p, 0, none⟩ (.slice (some ⟨g5, 0, none⟩) (M + 1) cap5)) := (hkb.weak (fun _ _ e => .inr e)).trans hS3
            clear hld hrow hown1 kp1 hown5 hgrow5 hlie5 kp5 hc5 hf5 hr1 one1 hu hi hnc hff kx kt hbx hS0 hS1 hS2 hS3 hs hk hkb hfl hnl
            go_wp2
            go_ret
            exact ⟨g5, cap5, A', c', rfl, fin, hkf, hg5w, hA0.out⟩
    · go_simp
      refine hK.out _ _ (hS0.alloc hS0.size _) (fun hS1 => ?_)
      clear hK K'
      try dsimp only [Act.put]
      try simp only [List.setIfInBounds_toArray, List.set_cons_zero, List.set_cons_succ]
      have kx : Blk (W0.drew.alloc (.cells #[.slice none 0 0, .int .i64 0, .int .i64 0, .int .i64 0, .int .i64 0, .int .i64 0, .int .i64 0, .int .i64 0, .int .i64 0, .int .i64 0] 54)) W0.heap.size 54 #[.slice none 0 0, .int .i64 0, .int .i64 0, .int .i64 0, .int .i64 0, .int .i64 0, .int .i64 0, .int .i64 0, .int .i64 0, .int .i64 0] := Blk.new W0.drew _ _
      refine wpAnyH_ready (rs := [1]) (by kernel_rfl) (by simp) (AllReadyH.cons rfl (fun K' hK => ?_) AllReadyH.nil)
      go_simp
      go_at_call 20
      refine (pc.out _ hS1).mono ?_
      rintro _ w4 ⟨A', c', rfl, hown, b4⟩
      have hA0 : Hid (∀ a, A' = some a → w.heap.size ≤ a.block) := Lib.hid (fun a e => by
        rcases hown.2 with ⟨h, _⟩ | ⟨g1, _, _, h, hb1, _⟩
        · rw [e] at h; cases h
        · rw [e] at h; cases h; first | exact Nat.le_trans hS0.size hb1 | exact Nat.le_trans hS1.size hb1)
      have b5 := hS1.trans (b4.mono hS1.size)
      refine hK.out _ _ b5 (fun _ => ?_)
      clear hK K'
      try dsimp only [Act.put]
      try simp only [List.setIfInBounds_toArray, List.set_cons_zero, List.set_cons_succ]
      refine wpAnyH_take (i := 3) (v := .agg #[.slice A' n c', .int .i64 x, .int .i64 0, .int .i64 0, .int .i64 0, .int .i64 0, .int .i64 0, .int .i64 0, .int .i64 0, .int .i64 0]) rfl (by kernel_rfl) (by kernel_rfl) (by kernel_rfl) (fun _ _ _ h => h) (.inl ⟨by rfl, fun W hW => by go_simp⟩) b5 ?_
      try dsimp only [Act.put]
      try simp only [List.setIfInBounds_toArray, List.set_cons_zero, List.set_cons_succ]
      refine wpAnyH_ready (rs := [10]) (by kernel_rfl) (by simp) (AllReadyH.cons rfl (fun K' hK => ?_) AllReadyH.nil)
      rw [if_pos (by rfl)]
      have kx4 := kx.below b4 kx.lt
      refine wp_store_row 54 _ _ rfl W0.heap.size (newCells K x A' n c' (List.replicate 8 0)).toArray rfl rfl _ _ kx4 (by kernel_rfl) rfl (newCells_one _ _ _ _ _ _) ?_
      refine hK.out _ _ (below_setRow' b5 hS0.size _) (fun hS2 => ?_)
      clear hK K'
      try dsimp only [Act.put]
      try simp only [List.setIfInBounds_toArray, List.set_cons_zero, List.set_cons_succ]
      refine wpAnyH_take (i := 11) (v := .int .i64 (M : Int)) rfl (by kernel_rfl) (by kernel_rfl) (by kernel_rfl) (fun _ _ _ h => h) (.inl ⟨by rfl, fun W hW => by go_simp⟩) hS2 ?_
      try dsimp only [Act.put]
      try simp only [List.setIfInBounds_toArray, List.set_cons_zero, List.set_cons_succ]
      refine wpAnyH_done (by kernel_rfl) ?_ _
      have hk := (own_keyAt hown).keep (S := fun k => k = W0.heap.size) (KeepBut.of_grown (grown_setRow w4 W0.heap.size (newCells K x A' n c' (List.replicate 8 0)).toArray) (fun k e => by cases e; rfl)) (fun k cs fr hc e => by
        rw [e, kx4] at hc
        injection hc with hc
        injection hc with _ ht
        exact absurd ht (by decide))
      have q05 : Below W0.heap.size W0 w4 := ((Below.refl W0.heap.size W0).drew.alloc (Nat.le_refl _) _).trans (b4.mono (by simp))
      replace kt := kt.below (below_setRow' q05 (Nat.le_refl _) (newCells K x A' n c' (List.replicate 8 0)).toArray) kt.lt
      replace kx := kx4.setRow (newCells K x A' n c' (List.replicate 8 0)).toArray
      have hXw := b3.size
      obtain ⟨X, hX⟩ : ∃ X, W0.heap.size = X := ⟨_, rfl⟩
      rw [hX] at kx hk kt hS2 hXw ⊢
      clear q05 hX hS1 b5 b4 hown hS0 kx4
      generalize w4.setRow X (newCells K x A' n c' (List.replicate 8 0)).toArray = W5 at *
      clear hcx hbx pc hfol hnx hr
      have hfol : Tryd.prog.follows .mixedOrders = true := by kernel_rfl
      have hgX : g ≠ X := by have := hS.lt.2; omega
      have hpX : p ≠ X := by have := hS.lt.1; omega
      have htX : tw ≠ X := kt.ne_ kx (by decide)
      have htg : tw ≠ g := by have := hS.lt.2; omega
      have htp : tw ≠ p := by have := hS.lt.1; omega
      have hkb5 : KeepBut (fun b => b = g) w W5 := KeepBut.of_below hS2
      have hs5 : SkAt W5 base p g cap (stepN N T M 0) := hS.below hS2
      replace kx : Blk W5 X 54 (newCells K x A' n c' (newNx N T 0)).toArray := kx
      have h8N := I.ok8
      have hTM' := hTM.out
      have hTN : ∀ f, T f < N.length := fun f => by rw [hM.out]; exact hTM' f
      replace hTN := Lib.hid hTN
      clear hTM' hS2 b3
      go_wp2
      go_loopw [62] (fun i wr => ∃ k : Nat, k ≤ H ∧ i = .int .i64 (k : Int) ∧ SkAt wr base p g cap (stepN N T M k) ∧ Blk wr tw 51 #[.int .i64 (T 0 : Int), .int .i64 (T 1 : Int), .int .i64 (T 2 : Int), .int .i64 (T 3 : Int), .int .i64 (T 4 : Int), .int .i64 (T 5 : Int), .int .i64 (T 6 : Int), .int .i64 (T 7 : Int)] ∧ Blk wr X 54 (newCells K x A' n c' (newNx N T k)).toArray ∧ KeyAt wr 5 A' K ∧ KeepBut (fun b => b = g) w wr) (fun i _ => H - (intOf i).toNat)
      case atStart => exact ⟨0, by omega, rfl, hs5, kt, kx, hk, hkb5⟩
      case round =>
        clear hs5 kt kx hk hkb5
        obtain ⟨k, hkH, rfl, hs, kt, kx, hk, hkb⟩ := hrel
        have hlen : (stepN N T M k).length = M := by rw [stepN_length]; exact hM.out
        have h8k := stepN_ok h8N T M k
        have hbx := hs.box.cell 0
        rw [hlen] at hbx
        by_cases hlt : k < H
        · have hk8 : k < 8 := by omega
          have hTk := hTM.out k
          have hct := kt.cell k
          rw [← tow_lit, List.getElem?_toArray, towL_get _ _ _ hk8, if_pos (by omega)] at hct
          have hcx := hs.cellNx h8k (show T k < (stepN N T M k).length by rw [hlen]; exact hTk) hk8
          rw [stepN_nx hTN.out h8N k (by omega), if_neg (by omega)] at hcx
          obtain ⟨v, hv⟩ : ∃ v, nxOf N k (T k) = v := ⟨_, rfl⟩
          rw [hv] at hcx
          have hxc := kx.cell (2 + k)
          rw [newCells_get _ _ _ _ _ _ _ (by rw [newNx_length]; exact hk8)] at hxc
          have hxf := kx.frozen (2 + k)
          have kx' := kx.store (2 + k) (.int .i64 (v : Int))
          rw [newCells_set, ← hv] at kx'
          replace kx' : Blk (wr.setCell ⟨X, 2 + k, none⟩ (.int .i64 (v : Int))) X 54 (newCells K x A' n c' (newNx N T (k + 1))).toArray := by rw [← hv]; exact kx'
          have hkpX : KeepBut (fun b => b = X) wr (wr.setCell ⟨X, 2 + k, none⟩ (.int .i64 (v : Int))) := KeepBut.set_at wr X (2 + k) _
          have hs' := hs.keep hkpX hpX hgX (fun b cs fr hc e => by
            rw [e, kx] at hc
            injection hc with hc
            injection hc with _ ht
            exact absurd ht (by decide))
          have hk' := hk.store (p := ⟨X, 2 + k, none⟩) kx (by decide) (.int .i64 (v : Int))
          have kt' := kt.far (p := ⟨X, 2 + k, none⟩) htX (.int .i64 (v : Int))
          have hkb' := KeepBut.setCell_new (p := ⟨X, 2 + k, none⟩) hkb hXw (.int .i64 (v : Int))
          have hct' := kt'.cell k
          rw [← tow_lit, List.getElem?_toArray, towL_get _ _ _ hk8, if_pos (by omega)] at hct'
          have hcx' := hs'.cellNx h8k (show T k < (stepN N T M k).length by rw [hlen]; exact hTk) hk8
          have hcf' := hs'.row.frozenAt (T k * 10 + 2 + k)
          have hbx' := hs'.box.cell 0
          rw [hlen] at hbx'
          have hs2 := hs'.setNx h8k (show T k < (stepN N T M k).length by rw [hlen]; exact hTk) hk8 M
          have hk2 := hk'.store (p := ⟨g, T k * 10 + 2 + k, none⟩) hs'.gblk.choose_spec.1 (by decide) (.int .i64 (M : Int))
          have kt2 := kt'.far (p := ⟨g, T k * 10 + 2 + k, none⟩) htg (.int .i64 (M : Int))
          have kx2 := kx'.far (p := ⟨g, T k * 10 + 2 + k, none⟩) (fun e => hgX e.symm) (.int .i64 (M : Int))
          have hkb2 := KeepBut.setCell (S := fun b => b = g) (p := ⟨g, T k * 10 + 2 + k, none⟩) hkb' rfl (.int .i64 (M : Int))
          have k0i : (0 : Int) ≤ (k : Int) := by omega
          have k8i : (k : Int) < 8 := by omega
          have t0i : (0 : Int) ≤ (T k : Int) := by omega
          have tMi : (T k : Int) < (M : Int) := by omega
          replace hv := Lib.hid hv
          replace hlen := Lib.hid hlen
          clear hs hk kt kx hkb hkpX hs' hk' kt' kx' hkb'
          go_wp2_with fail
          refine still_tail 15 hfol (by kernel_rfl) ?_
          simp only [List.take_succ_cons, List.take_zero, List.drop_succ_cons, List.drop_zero]
          iterate 15 still_step
          refine wpStill_nil ?_
          go_wp2_with fail
          refine still_tail 12 hfol (by kernel_rfl) ?_
          simp only [List.take_succ_cons, List.take_zero, List.drop_succ_cons, List.drop_zero]
          iterate 12 still_step
          refine wpStill_nil ?_
          go_wp2
          go_roundw
          case rel => exact ⟨k + 1, by omega, by go_num, hs2.drew.drew, kt2, kx2, hk2, hkb2.drew.drew⟩
          case measure => simp [intOf] <;> omega
        · obtain rfl : k = H := by omega
          obtain ⟨f0, f1, f2, f3, f4, f5, f6, f7, hff⟩ := eight (newNx_length N T k)
          have hnc : newCells K x A' n c' (newNx N T k) = [.slice A' n c', .int .i64 x, .int .i64 (f0 : Int), .int .i64 (f1 : Int), .int .i64 (f2 : Int), .int .i64 (f3 : Int), .int .i64 (f4 : Int), .int .i64 (f5 : Int), .int .i64 (f6 : Int), .int .i64 (f7 : Int)] := by rw [hff]; rfl
          rw [hnc] at kx
          replace hnc := Lib.hid hnc
          replace hff := Lib.hid hff
          have hld := fun (W : World) (hW : KeepBut (fun b => b = p ∨ b = g) wr W) => (show W.rangeAt X 0 [.slice A' n c', .int .i64 x, .int .i64 (f0 : Int), .int .i64 (f1 : Int), .int .i64 (f2 : Int), .int .i64 (f3 : Int), .int .i64 (f4 : Int), .int .i64 (f5 : Int), .int .i64 (f6 : Int), .int .i64 (f7 : Int)] from fun j v hv => by
            rw [Nat.zero_add, cell_of_row W X j _ _ _ ((hW.block X kx.lt (by rintro (e | e) <;> omega)).trans kx)]
            simpa using hv)
          replace hld := Lib.hid hld
          have hS0 : KeepBut (fun b => b = p ∨ b = g) wr wr.drew := (KeepBut.refl wr).drew
          have hu := Tryd.underlying54
          have hi := node_size
          replace hlen := Lib.hid hlen
          replace hkH := Lib.hid hkH
          go_wp2_with fail
          refine wp_region_held (S := fun W => KeepBut (fun b => b = p ∨ b = g) wr W) hfol ?_
          refine wpAnyH_take (i := 0) (v := .pointer (some ⟨p, 0, none⟩)) rfl (by kernel_rfl) (by kernel_rfl) (by kernel_rfl) (fun _ _ _ h => h) (.inl ⟨by rfl, fun W hW => by go_simp⟩) hS0 ?_
          try dsimp only [Act.put]
          try simp only [List.setIfInBounds_toArray, List.set_cons_zero, List.set_cons_succ]
          refine wpAnyH_take (i := 1) (v := .pointer (some ⟨p, 0, none⟩)) rfl (by kernel_rfl) (by kernel_rfl) (by kernel_rfl) (fun _ _ _ h => h) (.inl ⟨by rfl, fun W hW => by go_simp⟩) hS0 ?_
          try dsimp only [Act.put]
          try simp only [List.setIfInBounds_toArray, List.set_cons_zero, List.set_cons_succ]
          refine wpAnyH_take (i := 2) (v := .pointer (some ⟨p, 0, none⟩)) rfl (by kernel_rfl) (by kernel_rfl) (by kernel_rfl) (fun _ _ _ h => h) (.inl ⟨by rfl, fun W hW => by go_simp⟩) hS0 ?_
          try dsimp only [Act.put]
          try simp only [List.setIfInBounds_toArray, List.set_cons_zero, List.set_cons_succ]
          refine wpAnyH_take (i := 3) (v := .pointer (some ⟨p, 0, none⟩)) rfl (by kernel_rfl) (by kernel_rfl) (by kernel_rfl) (fun _ _ _ h => h) (.inl ⟨by rfl, fun W hW => by go_simp⟩) hS0 ?_
          try dsimp only [Act.put]
          try simp only [List.setIfInBounds_toArray, List.set_cons_zero, List.set_cons_succ]
          refine wpAnyH_take (i := 5) (v := .agg #[.slice A' n c', .int .i64 x, .int .i64 (f0 : Int), .int .i64 (f1 : Int), .int .i64 (f2 : Int), .int .i64 (f3 : Int), .int .i64 (f4 : Int), .int .i64 (f5 : Int), .int .i64 (f6 : Int), .int .i64 (f7 : Int)]) rfl (by kernel_rfl) (by kernel_rfl) (by kernel_rfl) (fun _ _ _ h => h) (yieldsIf_load_mid (by rfl) 54 (.tmp 11) rfl X 0 rfl [.slice A' n c', .int .i64 x, .int .i64 (f0 : Int), .int .i64 (f1 : Int), .int .i64 (f2 : Int), .int .i64 (f3 : Int), .int .i64 (f4 : Int), .int .i64 (f5 : Int), .int .i64 (f6 : Int), .int .i64 (f7 : Int)] _ hld.out hu rfl hi) hS0 ?_
          try dsimp only [Act.put]
          try simp only [List.setIfInBounds_toArray, List.set_cons_zero, List.set_cons_succ]
          refine wpAnyH_ready (rs := [4, 6]) (by kernel_rfl) (by simp) (AllReadyH.cons rfl (fun K' hK => ?_) (AllReadyH.cons rfl (fun K' hK => ?_) AllReadyH.nil))
          · go_simp
            refine hK.out _ _ hS0 (fun _ => ?_)
            clear hK K'
            try dsimp only [Act.put]
            try simp only [List.setIfInBounds_toArray, List.set_cons_zero, List.set_cons_succ]
            refine wpAnyH_ready (rs := [6]) (by kernel_rfl) (by simp) (AllReadyH.cons rfl (fun K' hK => ?_) AllReadyH.nil)
            go_simp
            refine hK.out _ _ (hS0.alloc _) (fun hS1 => ?_)
            clear hK K'
            try dsimp only [Act.put]
            try simp only [List.setIfInBounds_toArray, List.set_cons_zero, List.set_cons_succ]
            have hr1 : Rd (wr.drew.alloc (.cells #[.slice A' n c', .int .i64 x, .int .i64 (f0 : Int), .int .i64 (f1 : Int), .int .i64 (f2 : Int), .int .i64 (f3 : Int), .int .i64 (f4 : Int), .int .i64 (f5 : Int), .int .i64 (f6 : Int), .int .i64 (f7 : Int)] 54)) 10 (some ⟨wr.heap.size, 0, none⟩) 1 [.slice A' n c', .int .i64 x, .int .i64 (f0 : Int), .int .i64 (f1 : Int), .int .i64 (f2 : Int), .int .i64 (f3 : Int), .int .i64 (f4 : Int), .int .i64 (f5 : Int), .int .i64 (f6 : Int), .int .i64 (f7 : Int)] := (Blk.new wr.drew 54 #[.slice A' n c', .int .i64 x, .int .i64 (f0 : Int), .int .i64 (f1 : Int), .int .i64 (f2 : Int), .int .i64 (f3 : Int), .int .i64 (f4 : Int), .int .i64 (f5 : Int), .int .i64 (f6 : Int), .int .i64 (f7 : Int)]).rd rfl (fun j u hu => by simpa using hu)
            have one1 : ∀ u ∈ ([.slice A' n c', .int .i64 x, .int .i64 (f0 : Int), .int .i64 (f1 : Int), .int .i64 (f2 : Int), .int .i64 (f3 : Int), .int .i64 (f4 : Int), .int .i64 (f5 : Int), .int .i64 (f6 : Int), .int .i64 (f7 : Int)] : List Value), u.oneCell' = true := by
              intro u hu
              simp only [List.mem_cons, List.not_mem_nil, or_false] at hu
              rcases hu with rfl | rfl | rfl | rfl | rfl | rfl | rfl | rfl | rfl | rfl <;> rfl
            have hrow := hs.row
            rw [hlen.out] at hrow
            have hown1 := (hrow.drew).alloc (.cells #[.slice A' n c', .int .i64 x, .int .i64 (f0 : Int), .int .i64 (f1 : Int), .int .i64 (f2 : Int), .int .i64 (f3 : Int), .int .i64 (f4 : Int), .int .i64 (f5 : Int), .int .i64 (f6 : Int), .int .i64 (f7 : Int)] 54)
            have kp1 := (hs.box.drew).alloc (.cells #[.slice A' n c', .int .i64 x, .int .i64 (f0 : Int), .int .i64 (f1 : Int), .int .i64 (f2 : Int), .int .i64 (f3 : Int), .int .i64 (f4 : Int), .int .i64 (f5 : Int), .int .i64 (f6 : Int), .int .i64 (f7 : Int)] 54)
            have hpb := hs.pb
            have hplt := hs.lt.1
            refine wpAnyH_ready (rs := [7]) (by kernel_rfl) (by simp) (AllReadyH.cons rfl (fun K' hK => ?_) AllReadyH.nil)
            refine step_app _ (by rfl) (.tmp 97) (.tmp 99) (by rfl) Tryd.underlying43 infoN (by rfl) (by omega) hown1 (by rfl) _ 1 1 hr1 (by rfl) one1 (by unfold maxLen; omega) (by omega) (by simp; omega) ?_
            intro v5 w5 hown5 hgrow5 hlie5
            obtain ⟨g5, cap5, rfl, hg5, hg5'⟩ := hown5.form (by omega)
            have hS2 : KeepBut (fun b => b = p ∨ b = g) wr w5 := hS1.trans (KeepBut.of_grown hgrow5 (fun b e => .inr (by simp [Value.ownBlock] at e; omega)))
            have kp5 := kp1.grown hgrow5 (by simp [Value.ownBlock]; exact hs.ne)
            have hpg5 : p ≠ g5 := by
              rintro rfl
              rcases hown5.2 with ⟨h1, _⟩ | ⟨g', cap', cur, hv, _, hg, _⟩
              · cases h1
              · cases hv
                unfold Blk at kp5
                rw [kp5] at hg
                injection hg with hg
                injection hg with _ ht
                exact absurd ht (by decide)
            have hg5w : g5 = g ∨ w.heap.size ≤ g5 := by
              rcases hlie5 with h1 | h1
              · simp [Value.ownBlock] at h1; exact .inl h1
              · simp [Value.ownBlock] at h1; have := hkb.size; exact .inr (by omega)
            refine hK.out _ _ hS2 (fun _ => ?_)
            clear hK K'
            try dsimp only [Act.put]
            try simp only [List.setIfInBounds_toArray, List.set_cons_zero, List.set_cons_succ]
            refine wpAnyH_take (i := 8) (v := .pointer (some ⟨p, 0, none⟩)) rfl (by kernel_rfl) (by kernel_rfl) (by kernel_rfl) (fun _ _ _ h => h) (.inl ⟨by rfl, fun W hW => by go_simp⟩) hS2 ?_
            try dsimp only [Act.put]
            try simp only [List.setIfInBounds_toArray, List.set_cons_zero, List.set_cons_succ]
            refine wpAnyH_take (i := 9) (v := .pointer (some ⟨p, 0, none⟩)) rfl (by kernel_rfl) (by kernel_rfl) (by kernel_rfl) (fun _ _ _ h => h) (.inl ⟨by rfl, fun W hW => by go_simp⟩) hS2 ?_
            try dsimp only [Act.put]
            try simp only [List.setIfInBounds_toArray, List.set_cons_zero, List.set_cons_succ]
            have hc5 := kp5.cell 0
            have hf5 := kp5.frozen 0
            refine wpAnyH_ready (rs := [10]) (by kernel_rfl) (by simp) (AllReadyH.cons rfl (fun K' hK => ?_) AllReadyH.nil)
            have hS3 : KeepBut (fun b => b = p ∨ b = g) wr (w5.setCell ⟨p, 0, none⟩ (.slice (some ⟨g5, 0, none⟩) (M + 1) cap5)) := KeepBut.setCell (S := fun b => b = p ∨ b = g) (p := ⟨p, 0, none⟩) hS2 (.inl rfl) _
            go_simp
            refine hK.out _ _ hS3 (fun _ => ?_)
            clear hK K'
            try dsimp only [Act.put]
            try simp only [List.setIfInBounds_toArray, List.set_cons_zero, List.set_cons_succ]
            refine wpAnyH_done (by kernel_rfl) ?_ _
            have hty : ∀ b cs fr, wr.heap[b]? = some (.cells cs 5 fr) → ¬ (b = p ∨ b = g) := by
              rintro b cs fr hc (e | e)
              · have hb' := hs.box
                unfold Blk at hb'
                rw [e, hb'] at hc
                injection hc with hc
                injection hc with _ ht
                exact absurd ht (by decide)
              · obtain ⟨cur, hg, _⟩ := hs.gblk
                rw [e, hg] at hc
                injection hc with hc
                injection hc with _ ht
                exact absurd ht (by decide)
            have hnl : (insN N T k ⟨K, x, A', c', []⟩).length = M + 1 := by rw [insN_length, hM.out]
            have hfl : flat (insN N T k ⟨K, x, A', c', []⟩) = flat (stepN N T M k) ++ [.slice A' n c', .int .i64 x, .int .i64 (f0 : Int), .int .i64 (f1 : Int), .int .i64 (f2 : Int), .int .i64 (f3 : Int), .int .i64 (f4 : Int), .int .i64 (f5 : Int), .int .i64 (f6 : Int), .int .i64 (f7 : Int)] := by
              unfold insN
              rw [flat_snoc, hM.out, ← hnc.out]
              unfold Nd.cells newCells
              simp only [hn.out]
            have fin : SkAt (w5.setCell ⟨p, 0, none⟩ (.slice (some ⟨g5, 0, none⟩) (M + 1) cap5)) base p g5 cap5 (insN N T k ⟨K, x, A', c', []⟩) := by
              refine ⟨?_, ?_, ?_, hpb⟩
              · rw [hnl]
                exact kp5.store 0 _
              · rw [hnl, hfl]
                exact hown5.kept (grownBy_setCell' w5 p _) (.inr (by simp only [Value.ownBlock]; exact fun e => hpg5 (by cases e; rfl)))
              · intro d hd
                unfold insN at hd
                rcases List.mem_append.1 hd with h1 | h1
                · rw [hM.out] at h1
                  exact ⟨(hs.keys d h1).1.keep hS3 hty, (hs.keys d h1).2⟩
                · rw [List.mem_singleton.1 h1]
                  exact ⟨hk.keep hS3 hty, by show K.length ≤ _; rw [hn.out]; exact hn2⟩
            have hkf : KeepBut (fun b => b = p ∨ b = g) w (w5.setCell ⟨p, 0, none⟩ (.slice (some ⟨g5, 0, none⟩) (M + 1) cap5)) := (hkb.weak (fun _ _ e => .inr e)).trans hS3
            clear hld hrow hown1 kp1 hown5 hgrow5 hlie5 kp5 hc5 hf5 hr1 one1 hu hi hnc hff kx kt hbx hS0 hS1 hS2 hS3 hs hk hkb hfl hnl
            go_wp2
            go_ret
            exact ⟨g5, cap5, A', c', rfl, fin, hkf, hg5w, hA0.out⟩
          · go_simp
            refine hK.out _ _ (hS0.alloc _) (fun hS1 => ?_)
            clear hK K'
            try dsimp only [Act.put]
            try simp only [List.setIfInBounds_toArray, List.set_cons_zero, List.set_cons_succ]
            have hbx6 := ((hs.box).alloc (.cells #[.slice A' n c', .int .i64 x, .int .i64 (f0 : Int), .int .i64 (f1 : Int), .int .i64 (f2 : Int), .int .i64 (f3 : Int), .int .i64 (f4 : Int), .int .i64 (f5 : Int), .int .i64 (f6 : Int), .int .i64 (f7 : Int)] 54)).cell 0
            rw [hlen.out] at hbx6
            refine wpAnyH_ready (rs := [4]) (by kernel_rfl) (by simp) (AllReadyH.cons rfl (fun K' hK => ?_) AllReadyH.nil)
            go_simp
            refine hK.out _ _ hS1 (fun _ => ?_)
            clear hK K' hbx6
            try dsimp only [Act.put]
            try simp only [List.setIfInBounds_toArray, List.set_cons_zero, List.set_cons_succ]
            have hr1 : Rd (wr.drew.alloc (.cells #[.slice A' n c', .int .i64 x, .int .i64 (f0 : Int), .int .i64 (f1 : Int), .int .i64 (f2 : Int), .int .i64 (f3 : Int), .int .i64 (f4 : Int), .int .i64 (f5 : Int), .int .i64 (f6 : Int), .int .i64 (f7 : Int)] 54)) 10 (some ⟨wr.heap.size, 0, none⟩) 1 [.slice A' n c', .int .i64 x, .int .i64 (f0 : Int), .int .i64 (f1 : Int), .int .i64 (f2 : Int), .int .i64 (f3 : Int), .int .i64 (f4 : Int), .int .i64 (f5 : Int), .int .i64 (f6 : Int), .int .i64 (f7 : Int)] := (Blk.new wr.drew 54 #[.slice A' n c', .int .i64 x, .int .i64 (f0 : Int), .int .i64 (f1 : Int), .int .i64 (f2 : Int), .int .i64 (f3 : Int), .int .i64 (f4 : Int), .int .i64 (f5 : Int), .int .i64 (f6 : Int), .int .i64 (f7 : Int)]).rd rfl (fun j u hu => by simpa using hu)
            have one1 : ∀ u ∈ ([.slice A' n c', .int .i64 x, .int .i64 (f0 : Int), .int .i64 (f1 : Int), .int .i64 (f2 : Int), .int .i64 (f3 : Int), .int .i64 (f4 : Int), .int .i64 (f5 : Int), .int .i64 (f6 : Int), .int .i64 (f7 : Int)] : List Value), u.oneCell' = true := by
              intro u hu
              simp only [List.mem_cons, List.not_mem_nil, or_false] at hu
              rcases hu with rfl | rfl | rfl | rfl | rfl | rfl | rfl | rfl | rfl | rfl <;> rfl
            have hrow := hs.row
            rw [hlen.out] at hrow
            have hown1 := (hrow.drew).alloc (.cells #[.slice A' n c', .int .i64 x, .int .i64 (f0 : Int), .int .i64 (f1 : Int), .int .i64 (f2 : Int), .int .i64 (f3 : Int), .int .i64 (f4 : Int), .int .i64 (f5 : Int), .int .i64 (f6 : Int), .int .i64 (f7 : Int)] 54)
            have kp1 := (hs.box.drew).alloc (.cells #[.slice A' n c', .int .i64 x, .int .i64 (f0 : Int), .int .i64 (f1 : Int), .int .i64 (f2 : Int), .int .i64 (f3 : Int), .int .i64 (f4 : Int), .int .i64 (f5 : Int), .int .i64 (f6 : Int), .int .i64 (f7 : Int)] 54)
            have hpb := hs.pb
            have hplt := hs.lt.1
            refine wpAnyH_ready (rs := [7]) (by kernel_rfl) (by simp) (AllReadyH.cons rfl (fun K' hK => ?_) AllReadyH.nil)
            refine step_app _ (by rfl) (.tmp 97) (.tmp 99) (by rfl) Tryd.underlying43 infoN (by rfl) (by omega) hown1 (by rfl) _ 1 1 hr1 (by rfl) one1 (by unfold maxLen; omega) (by omega) (by simp; omega) ?_
            intro v5 w5 hown5 hgrow5 hlie5
            obtain ⟨g5, cap5, rfl, hg5, hg5'⟩ := hown5.form (by omega)
            have hS2 : KeepBut (fun b => b = p ∨ b = g) wr w5 := hS1.trans (KeepBut.of_grown hgrow5 (fun b e => .inr (by simp [Value.ownBlock] at e; omega)))
            have kp5 := kp1.grown hgrow5 (by simp [Value.ownBlock]; exact hs.ne)
            have hpg5 : p ≠ g5 := by
              rintro rfl
              rcases hown5.2 with ⟨h1, _⟩ | ⟨g', cap', cur, hv, _, hg, _⟩
              · cases h1
              · cases hv
                unfold Blk at kp5
                rw [kp5] at hg
                injection hg with hg
                injection hg with _ ht
                exact absurd ht (by decide)
            have hg5w : g5 = g ∨ w.heap.size ≤ g5 := by
              rcases hlie5 with h1 | h1
              · simp [Value.ownBlock] at h1; exact .inl h1
              · simp [Value.ownBlock] at h1; have := hkb.size; exact .inr (by omega)
            refine hK.out _ _ hS2 (fun _ => ?_)
            clear hK K'
            try dsimp only [Act.put]
            try simp only [List.setIfInBounds_toArray, List.set_cons_zero, List.set_cons_succ]
            refine wpAnyH_take (i := 8) (v := .pointer (some ⟨p, 0, none⟩)) rfl (by kernel_rfl) (by kernel_rfl) (by kernel_rfl) (fun _ _ _ h => h) (.inl ⟨by rfl, fun W hW => by go_simp⟩) hS2 ?_
            try dsimp only [Act.put]
            try simp only [List.setIfInBounds_toArray, List.set_cons_zero, List.set_cons_succ]
            refine wpAnyH_take (i := 9) (v := .pointer (some ⟨p, 0, none⟩)) rfl (by kernel_rfl) (by kernel_rfl) (by kernel_rfl) (fun _ _ _ h => h) (.inl ⟨by rfl, fun W hW => by go_simp⟩) hS2 ?_
            try dsimp only [Act.put]
            try simp only [List.setIfInBounds_toArray, List.set_cons_zero, List.set_cons_succ]
            have hc5 := kp5.cell 0
            have hf5 := kp5.frozen 0
            refine wpAnyH_ready (rs := [10]) (by kernel_rfl) (by simp) (AllReadyH.cons rfl (fun K' hK => ?_) AllReadyH.nil)
            have hS3 : KeepBut (fun b => b = p ∨ b = g) wr (w5.setCell ⟨p, 0, none⟩ (.slice (some ⟨g5, 0, none⟩) (M + 1) cap5)) := KeepBut.setCell (S := fun b => b = p ∨ b = g) (p := ⟨p, 0, none⟩) hS2 (.inl rfl) _
            go_simp
            refine hK.out _ _ hS3 (fun _ => ?_)
            clear hK K'
            try dsimp only [Act.put]
            try simp only [List.setIfInBounds_toArray, List.set_cons_zero, List.set_cons_succ]
            refine wpAnyH_done (by kernel_rfl) ?_ _
            have hty : ∀ b cs fr, wr.heap[b]? = some (.cells cs 5 fr) → ¬ (b = p ∨ b = g) := by
              rintro b cs fr hc (e | e)
              · have hb' := hs.box
                unfold Blk at hb'
                rw [e, hb'] at hc
                injection hc with hc
                injection hc with _ ht
                exact absurd ht (by decide)
              · obtain ⟨cur, hg, _⟩ := hs.gblk
                rw [e, hg] at hc
                injection hc with hc
                injection hc with _ ht
                exact absurd ht (by decide)
            have hnl : (insN N T k ⟨K, x, A', c', []⟩).length = M + 1 := by rw [insN_length, hM.out]
            have hfl : flat (insN N T k ⟨K, x, A', c', []⟩) = flat (stepN N T M k) ++ [.slice A' n c', .int .i64 x, .int .i64 (f0 : Int), .int .i64 (f1 : Int), .int .i64 (f2 : Int), .int .i64 (f3 : Int), .int .i64 (f4 : Int), .int .i64 (f5 : Int), .int .i64 (f6 : Int), .int .i64 (f7 : Int)] := by
              unfold insN
              rw [flat_snoc, hM.out, ← hnc.out]
              unfold Nd.cells newCells
              simp only [hn.out]
            have fin : SkAt (w5.setCell ⟨p, 0, none⟩ (.slice (some ⟨g5, 0, none⟩) (M + 1) cap5)) base p g5 cap5 (insN N T k ⟨K, x, A', c', []⟩) := by
              refine ⟨?_, ?_, ?_, hpb⟩
              · rw [hnl]
                exact kp5.store 0 _
              · rw [hnl, hfl]
                exact hown5.kept (grownBy_setCell' w5 p _) (.inr (by simp only [Value.ownBlock]; exact fun e => hpg5 (by cases e; rfl)))
              · intro d hd
                unfold insN at hd
                rcases List.mem_append.1 hd with h1 | h1
                · rw [hM.out] at h1
                  exact ⟨(hs.keys d h1).1.keep hS3 hty, (hs.keys d h1).2⟩
                · rw [List.mem_singleton.1 h1]
                  exact ⟨hk.keep hS3 hty, by show K.length ≤ _; rw [hn.out]; exact hn2⟩
            have hkf : KeepBut (fun b => b = p ∨ b = g) w (w5.setCell ⟨p, 0, none⟩ (.slice (some ⟨g5, 0, none⟩) (M + 1) cap5)) := (hkb.weak (fun _ _ e => .inr e)).trans hS3
            clear hld hrow hown1 kp1 hown5 hgrow5 hlie5 kp5 hc5 hf5 hr1 one1 hu hi hnc hff kx kt hbx hS0 hS1 hS2 hS3 hs hk hkb hfl hnl
            go_wp2
            go_ret
            exact ⟨g5, cap5, A', c', rfl, fin, hkf, hg5w, hA0.out⟩
end Go.Proofs.YtidnhcningkcaaaDoor
