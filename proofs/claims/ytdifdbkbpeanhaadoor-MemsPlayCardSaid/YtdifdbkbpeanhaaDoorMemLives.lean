/- The walk of the statements' lives of layer 09. -/
import Derived.Test.YtdifdbkbpeanhaaDoorMemSame
set_option linter.unusedSimpArgs false
set_option linter.unusedVariables false
namespace Go.Proofs.YtdifdbkbpeanhaaDoor
open Go Go.RowKit Herb
theorem MemAt.putB {w w' : World} {base q p g cap : Nat} {A : Option Addr} {M : List (List UInt8 × Int)} {fs : List Ft} {b : Int} {fr : Bool} (h : MemAt w base q p g A cap M fs b fr) (hk : KeepBut (memS q p g A fs.length cap) w w') (hb : base ≤ w.heap.size) : Below base w w' :=
  ⟨hk.os, hk.tape, hk.output, hk.size, fun k hlt => hk.block k (by omega) (fun e => by have := (h.blocks e).1; omega)⟩
theorem lv_k1 : hasM [((Herb.putL ⟨#[97]⟩ 5 1 0), 0)] (Herb.putL ⟨#[97]⟩ 7 2 0) = false := by kernel_rfl
theorem lv_k2 : insM [((Herb.putL ⟨#[97]⟩ 5 1 0), 0)] (Herb.putL ⟨#[97]⟩ 7 2 0) 1 = [((Herb.putL ⟨#[97]⟩ 7 2 0), 1), ((Herb.putL ⟨#[97]⟩ 5 1 0), 0)] := by kernel_rfl
theorem lv_k3 : hasM [((Herb.putL ⟨#[97]⟩ 7 2 0), 1), ((Herb.putL ⟨#[97]⟩ 5 1 0), 0)] (Herb.putL ⟨#[97]⟩ 5 1 0) = true := by kernel_rfl
theorem lv_k4 : fromM [((Herb.putL ⟨#[97]⟩ 7 2 0), 1), ((Herb.putL ⟨#[97]⟩ 5 1 0), 0)] (seekL ⟨#[97]⟩ 6) = [((Herb.putL ⟨#[97]⟩ 5 1 0), 0)] := by kernel_rfl
theorem lv_l1 : (Herb.putL ⟨#[97]⟩ 5 1 0).length = 16 := by kernel_rfl
theorem lv_l2 : (Herb.putL ⟨#[97]⟩ 7 2 0).length = 16 := by kernel_rfl
theorem lv_m1 : mayB ⟨#[97]⟩ 1 0 = true := by kernel_rfl
theorem lv_m2 : mayB ⟨#[97]⟩ 2 0 = true := by kernel_rfl
theorem lv_m3 : mayB ⟨#[97]⟩ 0 0 = false := by kernel_rfl
set_option maxRecDepth 100000 in
set_option maxHeartbeats 3200000 in
theorem lives_any (w : World) : Calls Tryd.prog 5 #[] w fun e w' => e = .returned (.bool true) ∧ Below w.heap.size w w' := by
  obtain ⟨W0, hW0⟩ : ∃ W0, (((w.alloc (.cells #[.string ⟨#[97]⟩, .int .u32 5, .int .u64 1, .int .u64 0, .int .u8 0, .string ⟨#[120]⟩] 27)).alloc (.cells #[.string ⟨#[97]⟩, .int .u32 7, .int .u64 2, .int .u64 0, .int .u8 0, .string ⟨#[121]⟩] 27)).alloc (.cells #[.string ⟨#[97]⟩, .int .u32 5, .int .u64 1, .int .u64 0, .int .u8 0, .string ⟨#[122]⟩] 27)) = W0 := ⟨_, rfl⟩
  have kx : Blk W0 w.heap.size 27 #[.string ⟨#[97]⟩, .int .u32 5, .int .u64 1, .int .u64 0, .int .u8 0, .string ⟨#[120]⟩] := by rw [← hW0]; exact ((Blk.new w _ _).alloc _).alloc _
  have ky : Blk W0 (w.heap.size + 1) 27 #[.string ⟨#[97]⟩, .int .u32 7, .int .u64 2, .int .u64 0, .int .u8 0, .string ⟨#[121]⟩] := by rw [← hW0]; have := (Blk.new (w.alloc (.cells #[.string ⟨#[97]⟩, .int .u32 5, .int .u64 1, .int .u64 0, .int .u8 0, .string ⟨#[120]⟩] 27)) 27 #[.string ⟨#[97]⟩, .int .u32 7, .int .u64 2, .int .u64 0, .int .u8 0, .string ⟨#[121]⟩]).alloc (.cells #[.string ⟨#[97]⟩, .int .u32 5, .int .u64 1, .int .u64 0, .int .u8 0, .string ⟨#[122]⟩] 27); rwa [World.size_alloc] at this
  have kz : Blk W0 (w.heap.size + 1 + 1) 27 #[.string ⟨#[97]⟩, .int .u32 5, .int .u64 1, .int .u64 0, .int .u8 0, .string ⟨#[122]⟩] := by rw [← hW0]; have := (Blk.new ((w.alloc (.cells #[.string ⟨#[97]⟩, .int .u32 5, .int .u64 1, .int .u64 0, .int .u8 0, .string ⟨#[120]⟩] 27)).alloc (.cells #[.string ⟨#[97]⟩, .int .u32 7, .int .u64 2, .int .u64 0, .int .u8 0, .string ⟨#[121]⟩] 27)) 27 #[.string ⟨#[97]⟩, .int .u32 5, .int .u64 1, .int .u64 0, .int .u8 0, .string ⟨#[122]⟩]); rwa [World.size_alloc, World.size_alloc] at this
  have bw : Below w.heap.size w W0 := by rw [← hW0]; exact (((Below.refl w.heap.size w).alloc (Nat.le_refl _) _).alloc (by simp) _).alloc (by simp; omega) _
  replace hW0 := Lib.hid hW0
  go_enter Tryd.func5, Tryd.ntmps5
  go_wp2_with fail
  rw [hW0.out]
  refine (mnew_any W0).mono ?_
  rintro _ w1 ⟨q, p, g0, rfl, m0, b1⟩
  have cx := kx.below b1 kx.lt |>.cell
  go_wp2_with fail
  have pc : Calls Tryd.prog 9 #[.pointer (some ⟨q, 0, none⟩), .agg #[.string ⟨#[97]⟩, .int .u32 5, .int .u64 1, .int .u64 0, .int .u8 0, .string ⟨#[120]⟩], .int .i64 1] w1 _ := mput_new m0 (by decide) (by decide) (⟨⟨#[97]⟩, 5, 1, 0, 0, ⟨#[120]⟩⟩ : Ft) ⟨by decide, by decide, by decide, by decide⟩ 1 lv_m1 (by omega) (by omega) rfl (by omega) (by rw [lv_l1]; decide)
  refine pc.mono ?_
  clear pc
  rintro _ w2 ⟨g2, A2, c2, rfl, m2, k2, _⟩
  have b2 := b1.trans (m0.putB k2 b1.size)
  rw [lv_l1] at m2
  replace m2 : MemAt w2 W0.heap.size q p g2 A2 c2 [((Herb.putL ⟨#[97]⟩ 5 1 0), 0)] [(⟨⟨#[97]⟩, 5, 1, 0, 0, ⟨#[120]⟩⟩ : Ft)] 17 false := m2
  clear m0 k2 b1 cx
  have cy := ky.below b2 ky.lt |>.cell
  go_wp2_with fail
  have pc : Calls Tryd.prog 9 #[.pointer (some ⟨q, 0, none⟩), .agg #[.string ⟨#[97]⟩, .int .u32 7, .int .u64 2, .int .u64 0, .int .u8 0, .string ⟨#[121]⟩], .int .i64 3] w2 _ := mput_new m2 (by decide) (by decide) (⟨⟨#[97]⟩, 7, 2, 0, 0, ⟨#[121]⟩⟩ : Ft) ⟨by decide, by decide, by decide, by decide⟩ 3 lv_m2 (by omega) (by omega) lv_k1 (by omega) (by rw [lv_l2]; decide)
  refine pc.mono ?_
  clear pc
  rintro _ w3 ⟨g3, A3, c3, rfl, m3, k3, _⟩
  have b3 := b2.trans (m2.putB k3 b2.size)
  rw [lv_l2] at m3
  replace m3 : MemAt w3 W0.heap.size q p g3 A3 c3 (insM [((Herb.putL ⟨#[97]⟩ 5 1 0), 0)] (Herb.putL ⟨#[97]⟩ 7 2 0) 1) [(⟨⟨#[97]⟩, 5, 1, 0, 0, ⟨#[120]⟩⟩ : Ft), (⟨⟨#[97]⟩, 7, 2, 0, 0, ⟨#[121]⟩⟩ : Ft)] 34 false := m3
  rw [lv_k2] at m3
  clear m2 k3 b2 cy
  have cz := kz.below b3 kz.lt |>.cell
  go_wp2_with fail
  have pc : Calls Tryd.prog 9 #[.pointer (some ⟨q, 0, none⟩), .agg #[.string ⟨#[97]⟩, .int .u32 5, .int .u64 1, .int .u64 0, .int .u8 0, .string ⟨#[122]⟩], .int .i64 1] w3 _ := mput_there m3 (by decide) (by decide) (⟨⟨#[97]⟩, 5, 1, 0, 0, ⟨#[122]⟩⟩ : Ft) ⟨by decide, by decide, by decide, by decide⟩ 1 lv_m1 (by omega) (by omega) lv_k3
  refine pc.mono ?_
  clear pc
  rintro _ w4 ⟨rfl, k4⟩
  have b4 := b3.trans (k4.mono b3.size)
  have m4 := m3.below k4
  clear m3 k4 b3 cz
  go_wp2_with fail
  have pc : Calls Tryd.prog 9 #[.pointer (some ⟨q, 0, none⟩), .agg #[.string ⟨#[97]⟩, .int .u32 0, .int .u64 0, .int .u64 0, .int .u8 0, .string ⟨#[]⟩], .int .i64 1] w4 _ := mput_no m4 (⟨⟨#[97]⟩, 0, 0, 0, 0, ⟨#[]⟩⟩ : Ft) 1 lv_m3
  refine pc.mono ?_
  clear pc
  rintro _ w5 ⟨rfl, k5⟩
  have b5 := b4.trans (k5.mono b4.size)
  have m5 := m4.below k5
  clear m4 k5 b4
  go_wp2_with fail
  refine (mlen_any m5 2 rfl).mono ?_
  rintro _ _ ⟨rfl, rfl⟩
  go_wp2_with fail
  refine (mbytes_any m5).mono ?_
  rintro _ _ ⟨rfl, rfl⟩
  have hS0 : Below W0.heap.size w5 w5.drew := (Below.refl _ w5).drew
  have hld : ∀ (X : World), Below w5.heap.size w5 X → X.rangeAt w.heap.size 0 [.string ⟨#[97]⟩, .int .u32 5, .int .u64 1, .int .u64 0, .int .u8 0, .string ⟨#[120]⟩] ∧ X.rangeAt (w.heap.size + 1) 0 [.string ⟨#[97]⟩, .int .u32 7, .int .u64 2, .int .u64 0, .int .u8 0, .string ⟨#[121]⟩] := fun V hV => by
    have kx5 := kx.below b5 kx.lt
    have ky5 := ky.below b5 ky.lt
    have kxV := kx5.below hV kx5.lt
    have kyV := ky5.below hV ky5.lt
    refine ⟨fun j v hv => ?_, fun j v hv => ?_⟩
    · rw [Nat.zero_add, kxV.cell j]
      simpa using hv
    · rw [Nat.zero_add, kyV.cell j]
      simpa using hv
  have hu := Tryd.underlying27
  have hi := fact_size
  have hfol : Tryd.prog.follows .mixedOrders = true := by kernel_rfl
  have pF := fun (V : World) (hV : Below w5.heap.size w5 V) => mfacts_any _ q p g3 c3 A3 _ _ _ _ V (m5.below hV) (by decide)
  have pG := fun (V : World) (hV : Below w5.heap.size w5 V) => got_any _ q p g3 c3 A3 _ _ _ _ V (m5.below hV) (by decide) ⟨#[97]⟩ 6 (by decide) (by decide) 9 (by omega) (by omega)
  rw [lv_k4] at pG
  have hS0 : Below w5.heap.size w5 w5.drew := (Below.refl _ w5).drew
  replace pF := Lib.hid pF
  replace pG := Lib.hid pG
  replace hld := Lib.hid hld
  go_wp2_with fail
  refine wp_region_held (S := fun X => Below w5.heap.size w5 X) hfol ?_
  refine wpAnyH_take (i := 0) (v := .pointer (some ⟨q, 0, none⟩)) rfl (by kernel_rfl) (by kernel_rfl) (by kernel_rfl) (fun _ _ _ h => h) (.inl ⟨by rfl, fun W hW => by go_simp⟩) hS0 ?_
  try dsimp only [Act.put]
  try simp only [List.setIfInBounds_toArray, List.set_cons_zero, List.set_cons_succ]
  refine wpAnyH_take (i := 2) (v := .agg #[.string ⟨#[97]⟩, .int .u32 7, .int .u64 2, .int .u64 0, .int .u8 0, .string ⟨#[121]⟩]) rfl (by kernel_rfl) (by kernel_rfl) (by kernel_rfl) (fun _ _ _ h => h) (yieldsIf_load_mid (by rfl) 27 (.tmp 2) rfl (w.heap.size + 1) 0 rfl [.string ⟨#[97]⟩, .int .u32 7, .int .u64 2, .int .u64 0, .int .u8 0, .string ⟨#[121]⟩] _ (fun V hV => (hld.out V hV).2) hu rfl hi) hS0 ?_
  try dsimp only [Act.put]
  try simp only [List.setIfInBounds_toArray, List.set_cons_zero, List.set_cons_succ]
  refine wpAnyH_take (i := 3) (v := .agg #[.string ⟨#[97]⟩, .int .u32 5, .int .u64 1, .int .u64 0, .int .u8 0, .string ⟨#[120]⟩]) rfl (by kernel_rfl) (by kernel_rfl) (by kernel_rfl) (fun _ _ _ h => h) (yieldsIf_load_mid (by rfl) 27 (.tmp 1) rfl w.heap.size 0 rfl [.string ⟨#[97]⟩, .int .u32 5, .int .u64 1, .int .u64 0, .int .u8 0, .string ⟨#[120]⟩] _ (fun V hV => (hld.out V hV).1) hu rfl hi) hS0 ?_
  try dsimp only [Act.put]
  try simp only [List.setIfInBounds_toArray, List.set_cons_zero, List.set_cons_succ]
  refine wpAnyH_ready (rs := [1, 4]) (by kernel_rfl) (by simp) (AllReadyH.cons rfl (fun K' hK => ?_) (AllReadyH.cons rfl (fun K' hK => ?_) AllReadyH.nil))
  · go_simp
    go_at_call 16
    refine (pF.out _ hS0).mono ?_
    rintro _ v10 ⟨AF, nF, cF, rfl, hnF, rowF, kF⟩
    obtain rfl : 2 = nF := hnF
    have hT10 := hS0.trans (kF.mono hS0.size)
    refine hK.out _ _ hT10 (fun _ => ?_)
    clear hK K'
    try dsimp only [Act.put]
    try simp only [List.setIfInBounds_toArray, List.set_cons_zero, List.set_cons_succ]
    have rF : Rd v10 6 AF 2 (ftC [(⟨⟨#[97]⟩, 7, 2, 0, 0, ⟨#[121]⟩⟩ : Ft), (⟨⟨#[97]⟩, 5, 1, 0, 0, ⟨#[120]⟩⟩ : Ft)]) := Rd.of_own rowF
    refine wpAnyH_ready (rs := [4]) (by kernel_rfl) (by simp) (AllReadyH.cons rfl (fun K' hK => ?_) AllReadyH.nil)
    have hT11 := hT10.alloc hT10.size (.cells #[.string ⟨#[97]⟩, .int .u32 7, .int .u64 2, .int .u64 0, .int .u8 0, .string ⟨#[121]⟩, .string ⟨#[97]⟩, .int .u32 5, .int .u64 1, .int .u64 0, .int .u8 0, .string ⟨#[120]⟩] 27)
    go_simp
    refine hK.out _ _ hT11 (fun _ => ?_)
    clear hK K'
    try dsimp only [Act.put]
    try simp only [List.setIfInBounds_toArray, List.set_cons_zero, List.set_cons_succ]
    have rYX : Rd (v10.alloc (.cells #[.string ⟨#[97]⟩, .int .u32 7, .int .u64 2, .int .u64 0, .int .u8 0, .string ⟨#[121]⟩, .string ⟨#[97]⟩, .int .u32 5, .int .u64 1, .int .u64 0, .int .u8 0, .string ⟨#[120]⟩] 27)) 6 (some ⟨v10.heap.size, 0, none⟩) 2 (ftC [(⟨⟨#[97]⟩, 7, 2, 0, 0, ⟨#[121]⟩⟩ : Ft), (⟨⟨#[97]⟩, 5, 1, 0, 0, ⟨#[120]⟩⟩ : Ft)]) := (Blk.new v10 27 _).rd rfl (fun j u hu => by simpa [ftC, Ft.cells] using hu)
    refine wpAnyH_ready (rs := [5]) (by kernel_rfl) (by simp) (AllReadyH.cons rfl (fun K' hK => ?_) AllReadyH.nil)
    go_simp
    go_at_call 17
    refine (sameFt_yes _ AF _ 2 2 2 [(⟨⟨#[97]⟩, 7, 2, 0, 0, ⟨#[121]⟩⟩ : Ft), (⟨⟨#[97]⟩, 5, 1, 0, 0, ⟨#[120]⟩⟩ : Ft)] rfl (by omega) (rF.alloc _) rYX).mono ?_
    rintro _ v12 ⟨rfl, kS⟩
    have hT12 := hT11.trans (kS.mono hT11.size)
    refine hK.out _ _ hT12 (fun _ => ?_)
    clear hK K'
    try dsimp only [Act.put]
    try simp only [List.setIfInBounds_toArray, List.set_cons_zero, List.set_cons_succ]
    refine wpAnyH_take (i := 6) (v := .bool false) rfl (by kernel_rfl) (by kernel_rfl) (by kernel_rfl) (fun _ _ _ h => h) (.inl ⟨by rfl, fun W hW => by go_simp⟩) hT12 ?_
    try dsimp only [Act.put]
    try simp only [List.setIfInBounds_toArray, List.set_cons_zero, List.set_cons_succ]
    refine wpAnyH_take (i := 7) (v := .bool false) rfl (by kernel_rfl) (by kernel_rfl) (by kernel_rfl) (fun _ _ _ h => h) (.inl ⟨by rfl, fun W hW => by go_simp⟩) hT12 ?_
    try dsimp only [Act.put]
    try simp only [List.setIfInBounds_toArray, List.set_cons_zero, List.set_cons_succ]
    refine wpAnyH_take (i := 8) (v := .pointer (some ⟨q, 0, none⟩)) rfl (by kernel_rfl) (by kernel_rfl) (by kernel_rfl) (fun _ _ _ h => h) (.inl ⟨by rfl, fun W hW => by go_simp⟩) hT12 ?_
    try dsimp only [Act.put]
    try simp only [List.setIfInBounds_toArray, List.set_cons_zero, List.set_cons_succ]
    refine wpAnyH_take (i := 10) (v := .agg #[.string ⟨#[97]⟩, .int .u32 5, .int .u64 1, .int .u64 0, .int .u8 0, .string ⟨#[120]⟩]) rfl (by kernel_rfl) (by kernel_rfl) (by kernel_rfl) (fun _ _ _ h => h) (yieldsIf_load_mid (by rfl) 27 (.tmp 1) rfl w.heap.size 0 rfl [.string ⟨#[97]⟩, .int .u32 5, .int .u64 1, .int .u64 0, .int .u8 0, .string ⟨#[120]⟩] _ (fun V hV => (hld.out V hV).1) hu rfl hi) hT12 ?_
    try dsimp only [Act.put]
    try simp only [List.setIfInBounds_toArray, List.set_cons_zero, List.set_cons_succ]
    refine wpAnyH_ready (rs := [9, 11]) (by kernel_rfl) (by simp) (AllReadyH.cons rfl (fun K' hK => ?_) (AllReadyH.cons rfl (fun K' hK => ?_) AllReadyH.nil))
    · go_simp
      go_at_call 18
      refine (pG.out _ hT12).mono ?_
      rintro _ v21 ⟨vG, rfl, rowG, kG⟩
      replace rowG : v21.ownsRow _ 27 6 vG 1 (ftC [(⟨⟨#[97]⟩, 5, 1, 0, 0, ⟨#[120]⟩⟩ : Ft)]) := rowG
      obtain ⟨AG, gcG, rfl⟩ : ∃ A c, vG = .slice A 1 c := by
        obtain ⟨g5, cap5, e5, _⟩ := rowG.form (by omega)
        exact ⟨_, _, e5⟩
      have hT21 := hT12.trans (kG.mono hT12.size)
      refine hK.out _ _ hT21 (fun _ => ?_)
      clear hK K'
      try dsimp only [Act.put]
      try simp only [List.setIfInBounds_toArray, List.set_cons_zero, List.set_cons_succ]
      have rG : Rd v21 6 AG 1 (ftC [(⟨⟨#[97]⟩, 5, 1, 0, 0, ⟨#[120]⟩⟩ : Ft)]) := Rd.of_own rowG
      refine wpAnyH_ready (rs := [11]) (by kernel_rfl) (by simp) (AllReadyH.cons rfl (fun K' hK => ?_) AllReadyH.nil)
      have hT22 := hT21.alloc hT21.size (.cells #[.string ⟨#[97]⟩, .int .u32 5, .int .u64 1, .int .u64 0, .int .u8 0, .string ⟨#[120]⟩] 27)
      go_simp
      refine hK.out _ _ hT22 (fun _ => ?_)
      clear hK K'
      try dsimp only [Act.put]
      try simp only [List.setIfInBounds_toArray, List.set_cons_zero, List.set_cons_succ]
      have rX := Rd.ft v21 27 (⟨⟨#[97]⟩, 5, 1, 0, 0, ⟨#[120]⟩⟩ : Ft)
      refine wpAnyH_ready (rs := [12]) (by kernel_rfl) (by simp) (AllReadyH.cons rfl (fun K' hK => ?_) AllReadyH.nil)
      go_simp
      go_at_call 17
      refine (sameFt_yes _ AG _ 1 gcG 1 [(⟨⟨#[97]⟩, 5, 1, 0, 0, ⟨#[120]⟩⟩ : Ft)] rfl (by omega) (rG.alloc _) rX).mono ?_
      rintro _ v23 ⟨rfl, kS⟩
      have hT23 := hT22.trans (kS.mono hT22.size)
      refine hK.out _ _ hT23 (fun _ => ?_)
      clear hK K'
      try dsimp only [Act.put]
      try simp only [List.setIfInBounds_toArray, List.set_cons_zero, List.set_cons_succ]
      refine wpAnyH_take (i := 13) (v := .bool false) rfl (by kernel_rfl) (by kernel_rfl) (by kernel_rfl) (fun _ _ _ h => h) (.inl ⟨by rfl, fun W hW => by go_simp⟩) hT23 ?_
      try dsimp only [Act.put]
      try simp only [List.setIfInBounds_toArray, List.set_cons_zero, List.set_cons_succ]
      refine wpAnyH_take (i := 14) (v := .bool false) rfl (by kernel_rfl) (by kernel_rfl) (by kernel_rfl) (fun _ _ _ h => h) (.inl ⟨by rfl, fun W hW => by go_simp⟩) hT23 ?_
      try dsimp only [Act.put]
      try simp only [List.setIfInBounds_toArray, List.set_cons_zero, List.set_cons_succ]
      refine wpAnyH_done (by kernel_rfl) ?_ _
      have bZ := b5.trans (hT23.mono b5.size)
      have mZ := m5.below hT23
      clear pF pG hld m5 b5
      go_wp2_with fail
      refine (mfreeze_any mZ).mono ?_
      rintro _ u1 ⟨rfl, mY, kY⟩
      have bY := bZ.trans (kY.below bZ.size (fun k e => by subst e; exact mZ.qb))
      go_wp2_with fail
      have pc : Calls Tryd.prog 9 #[.pointer (some ⟨q, 0, none⟩), .agg #[.string ⟨#[98]⟩, .int .u32 0, .int .u64 3, .int .u64 0, .int .u8 0, .string ⟨#[]⟩], .int .i64 1] u1 _ := mput_frozen mY (⟨⟨#[98]⟩, 0, 3, 0, 0, ⟨#[]⟩⟩ : Ft) 1
      refine pc.mono ?_
      clear pc
      rintro _ u2 ⟨rfl, kU⟩
      go_wp2
      go_ret
      exact ⟨rfl, bw.trans ((bY.trans (kU.mono bY.size)).mono bw.size)⟩
    · have hT24 := hT12.alloc hT12.size (.cells #[.string ⟨#[97]⟩, .int .u32 5, .int .u64 1, .int .u64 0, .int .u8 0, .string ⟨#[120]⟩] 27)
      go_simp
      refine hK.out _ _ hT24 (fun _ => ?_)
      clear hK K'
      try dsimp only [Act.put]
      try simp only [List.setIfInBounds_toArray, List.set_cons_zero, List.set_cons_succ]
      refine wpAnyH_ready (rs := [9]) (by kernel_rfl) (by simp) (AllReadyH.cons rfl (fun K' hK => ?_) AllReadyH.nil)
      have rX := Rd.ft v12 27 (⟨⟨#[97]⟩, 5, 1, 0, 0, ⟨#[120]⟩⟩ : Ft)
      go_simp
      go_at_call 18
      refine (pG.out _ hT24).mono ?_
      rintro _ v25 ⟨vG, rfl, rowG, kG⟩
      replace rowG : v25.ownsRow _ 27 6 vG 1 (ftC [(⟨⟨#[97]⟩, 5, 1, 0, 0, ⟨#[120]⟩⟩ : Ft)]) := rowG
      obtain ⟨AG, gcG, rfl⟩ : ∃ A c, vG = .slice A 1 c := by
        obtain ⟨g5, cap5, e5, _⟩ := rowG.form (by omega)
        exact ⟨_, _, e5⟩
      have hT25 := hT24.trans (kG.mono hT24.size)
      refine hK.out _ _ hT25 (fun _ => ?_)
      clear hK K'
      try dsimp only [Act.put]
      try simp only [List.setIfInBounds_toArray, List.set_cons_zero, List.set_cons_succ]
      have rG : Rd v25 6 AG 1 (ftC [(⟨⟨#[97]⟩, 5, 1, 0, 0, ⟨#[120]⟩⟩ : Ft)]) := Rd.of_own rowG
      refine wpAnyH_ready (rs := [12]) (by kernel_rfl) (by simp) (AllReadyH.cons rfl (fun K' hK => ?_) AllReadyH.nil)
      go_simp
      go_at_call 17
      refine (sameFt_yes _ AG _ 1 gcG 1 [(⟨⟨#[97]⟩, 5, 1, 0, 0, ⟨#[120]⟩⟩ : Ft)] rfl (by omega) rG (Rd.below rX kG)).mono ?_
      rintro _ v26 ⟨rfl, kS⟩
      have hT26 := hT25.trans (kS.mono hT25.size)
      refine hK.out _ _ hT26 (fun _ => ?_)
      clear hK K'
      try dsimp only [Act.put]
      try simp only [List.setIfInBounds_toArray, List.set_cons_zero, List.set_cons_succ]
      refine wpAnyH_take (i := 13) (v := .bool false) rfl (by kernel_rfl) (by kernel_rfl) (by kernel_rfl) (fun _ _ _ h => h) (.inl ⟨by rfl, fun W hW => by go_simp⟩) hT26 ?_
      try dsimp only [Act.put]
      try simp only [List.setIfInBounds_toArray, List.set_cons_zero, List.set_cons_succ]
      refine wpAnyH_take (i := 14) (v := .bool false) rfl (by kernel_rfl) (by kernel_rfl) (by kernel_rfl) (fun _ _ _ h => h) (.inl ⟨by rfl, fun W hW => by go_simp⟩) hT26 ?_
      try dsimp only [Act.put]
      try simp only [List.setIfInBounds_toArray, List.set_cons_zero, List.set_cons_succ]
      refine wpAnyH_done (by kernel_rfl) ?_ _
      have bZ := b5.trans (hT26.mono b5.size)
      have mZ := m5.below hT26
      clear pF pG hld m5 b5
      go_wp2_with fail
      refine (mfreeze_any mZ).mono ?_
      rintro _ u1 ⟨rfl, mY, kY⟩
      have bY := bZ.trans (kY.below bZ.size (fun k e => by subst e; exact mZ.qb))
      go_wp2_with fail
      have pc : Calls Tryd.prog 9 #[.pointer (some ⟨q, 0, none⟩), .agg #[.string ⟨#[98]⟩, .int .u32 0, .int .u64 3, .int .u64 0, .int .u8 0, .string ⟨#[]⟩], .int .i64 1] u1 _ := mput_frozen mY (⟨⟨#[98]⟩, 0, 3, 0, 0, ⟨#[]⟩⟩ : Ft) 1
      refine pc.mono ?_
      clear pc
      rintro _ u2 ⟨rfl, kU⟩
      go_wp2
      go_ret
      exact ⟨rfl, bw.trans ((bY.trans (kU.mono bY.size)).mono bw.size)⟩
  · have hT13 := hS0.alloc hS0.size (.cells #[.string ⟨#[97]⟩, .int .u32 7, .int .u64 2, .int .u64 0, .int .u8 0, .string ⟨#[121]⟩, .string ⟨#[97]⟩, .int .u32 5, .int .u64 1, .int .u64 0, .int .u8 0, .string ⟨#[120]⟩] 27)
    go_simp
    refine hK.out _ _ hT13 (fun _ => ?_)
    clear hK K'
    try dsimp only [Act.put]
    try simp only [List.setIfInBounds_toArray, List.set_cons_zero, List.set_cons_succ]
    refine wpAnyH_ready (rs := [1]) (by kernel_rfl) (by simp) (AllReadyH.cons rfl (fun K' hK => ?_) AllReadyH.nil)
    have rYX : Rd (w5.drew.alloc (.cells #[.string ⟨#[97]⟩, .int .u32 7, .int .u64 2, .int .u64 0, .int .u8 0, .string ⟨#[121]⟩, .string ⟨#[97]⟩, .int .u32 5, .int .u64 1, .int .u64 0, .int .u8 0, .string ⟨#[120]⟩] 27)) 6 (some ⟨w5.heap.size, 0, none⟩) 2 (ftC [(⟨⟨#[97]⟩, 7, 2, 0, 0, ⟨#[121]⟩⟩ : Ft), (⟨⟨#[97]⟩, 5, 1, 0, 0, ⟨#[120]⟩⟩ : Ft)]) := (Blk.new w5.drew 27 _).rd rfl (fun j u hu => by simpa [ftC, Ft.cells] using hu)
    go_simp
    go_at_call 16
    refine (pF.out _ hT13).mono ?_
    rintro _ v14 ⟨AF, nF, cF, rfl, hnF, rowF, kF⟩
    obtain rfl : 2 = nF := hnF
    have hT14 := hT13.trans (kF.mono hT13.size)
    refine hK.out _ _ hT14 (fun _ => ?_)
    clear hK K'
    try dsimp only [Act.put]
    try simp only [List.setIfInBounds_toArray, List.set_cons_zero, List.set_cons_succ]
    have rF : Rd v14 6 AF 2 (ftC [(⟨⟨#[97]⟩, 7, 2, 0, 0, ⟨#[121]⟩⟩ : Ft), (⟨⟨#[97]⟩, 5, 1, 0, 0, ⟨#[120]⟩⟩ : Ft)]) := Rd.of_own rowF
    refine wpAnyH_ready (rs := [5]) (by kernel_rfl) (by simp) (AllReadyH.cons rfl (fun K' hK => ?_) AllReadyH.nil)
    go_simp
    go_at_call 17
    refine (sameFt_yes _ AF _ 2 2 2 [(⟨⟨#[97]⟩, 7, 2, 0, 0, ⟨#[121]⟩⟩ : Ft), (⟨⟨#[97]⟩, 5, 1, 0, 0, ⟨#[120]⟩⟩ : Ft)] rfl (by omega) rF (Rd.below rYX kF)).mono ?_
    rintro _ v15 ⟨rfl, kS⟩
    have hT15 := hT14.trans (kS.mono hT14.size)
    refine hK.out _ _ hT15 (fun _ => ?_)
    clear hK K'
    try dsimp only [Act.put]
    try simp only [List.setIfInBounds_toArray, List.set_cons_zero, List.set_cons_succ]
    refine wpAnyH_take (i := 6) (v := .bool false) rfl (by kernel_rfl) (by kernel_rfl) (by kernel_rfl) (fun _ _ _ h => h) (.inl ⟨by rfl, fun W hW => by go_simp⟩) hT15 ?_
    try dsimp only [Act.put]
    try simp only [List.setIfInBounds_toArray, List.set_cons_zero, List.set_cons_succ]
    refine wpAnyH_take (i := 7) (v := .bool false) rfl (by kernel_rfl) (by kernel_rfl) (by kernel_rfl) (fun _ _ _ h => h) (.inl ⟨by rfl, fun W hW => by go_simp⟩) hT15 ?_
    try dsimp only [Act.put]
    try simp only [List.setIfInBounds_toArray, List.set_cons_zero, List.set_cons_succ]
    refine wpAnyH_take (i := 8) (v := .pointer (some ⟨q, 0, none⟩)) rfl (by kernel_rfl) (by kernel_rfl) (by kernel_rfl) (fun _ _ _ h => h) (.inl ⟨by rfl, fun W hW => by go_simp⟩) hT15 ?_
    try dsimp only [Act.put]
    try simp only [List.setIfInBounds_toArray, List.set_cons_zero, List.set_cons_succ]
    refine wpAnyH_take (i := 10) (v := .agg #[.string ⟨#[97]⟩, .int .u32 5, .int .u64 1, .int .u64 0, .int .u8 0, .string ⟨#[120]⟩]) rfl (by kernel_rfl) (by kernel_rfl) (by kernel_rfl) (fun _ _ _ h => h) (yieldsIf_load_mid (by rfl) 27 (.tmp 1) rfl w.heap.size 0 rfl [.string ⟨#[97]⟩, .int .u32 5, .int .u64 1, .int .u64 0, .int .u8 0, .string ⟨#[120]⟩] _ (fun V hV => (hld.out V hV).1) hu rfl hi) hT15 ?_
    try dsimp only [Act.put]
    try simp only [List.setIfInBounds_toArray, List.set_cons_zero, List.set_cons_succ]
    refine wpAnyH_ready (rs := [9, 11]) (by kernel_rfl) (by simp) (AllReadyH.cons rfl (fun K' hK => ?_) (AllReadyH.cons rfl (fun K' hK => ?_) AllReadyH.nil))
    · go_simp
      go_at_call 18
      refine (pG.out _ hT15).mono ?_
      rintro _ v31 ⟨vG, rfl, rowG, kG⟩
      replace rowG : v31.ownsRow _ 27 6 vG 1 (ftC [(⟨⟨#[97]⟩, 5, 1, 0, 0, ⟨#[120]⟩⟩ : Ft)]) := rowG
      obtain ⟨AG, gcG, rfl⟩ : ∃ A c, vG = .slice A 1 c := by
        obtain ⟨g5, cap5, e5, _⟩ := rowG.form (by omega)
        exact ⟨_, _, e5⟩
      have hT31 := hT15.trans (kG.mono hT15.size)
      refine hK.out _ _ hT31 (fun _ => ?_)
      clear hK K'
      try dsimp only [Act.put]
      try simp only [List.setIfInBounds_toArray, List.set_cons_zero, List.set_cons_succ]
      have rG : Rd v31 6 AG 1 (ftC [(⟨⟨#[97]⟩, 5, 1, 0, 0, ⟨#[120]⟩⟩ : Ft)]) := Rd.of_own rowG
      refine wpAnyH_ready (rs := [11]) (by kernel_rfl) (by simp) (AllReadyH.cons rfl (fun K' hK => ?_) AllReadyH.nil)
      have hT32 := hT31.alloc hT31.size (.cells #[.string ⟨#[97]⟩, .int .u32 5, .int .u64 1, .int .u64 0, .int .u8 0, .string ⟨#[120]⟩] 27)
      go_simp
      refine hK.out _ _ hT32 (fun _ => ?_)
      clear hK K'
      try dsimp only [Act.put]
      try simp only [List.setIfInBounds_toArray, List.set_cons_zero, List.set_cons_succ]
      have rX := Rd.ft v31 27 (⟨⟨#[97]⟩, 5, 1, 0, 0, ⟨#[120]⟩⟩ : Ft)
      refine wpAnyH_ready (rs := [12]) (by kernel_rfl) (by simp) (AllReadyH.cons rfl (fun K' hK => ?_) AllReadyH.nil)
      go_simp
      go_at_call 17
      refine (sameFt_yes _ AG _ 1 gcG 1 [(⟨⟨#[97]⟩, 5, 1, 0, 0, ⟨#[120]⟩⟩ : Ft)] rfl (by omega) (rG.alloc _) rX).mono ?_
      rintro _ v33 ⟨rfl, kS⟩
      have hT33 := hT32.trans (kS.mono hT32.size)
      refine hK.out _ _ hT33 (fun _ => ?_)
      clear hK K'
      try dsimp only [Act.put]
      try simp only [List.setIfInBounds_toArray, List.set_cons_zero, List.set_cons_succ]
      refine wpAnyH_take (i := 13) (v := .bool false) rfl (by kernel_rfl) (by kernel_rfl) (by kernel_rfl) (fun _ _ _ h => h) (.inl ⟨by rfl, fun W hW => by go_simp⟩) hT33 ?_
      try dsimp only [Act.put]
      try simp only [List.setIfInBounds_toArray, List.set_cons_zero, List.set_cons_succ]
      refine wpAnyH_take (i := 14) (v := .bool false) rfl (by kernel_rfl) (by kernel_rfl) (by kernel_rfl) (fun _ _ _ h => h) (.inl ⟨by rfl, fun W hW => by go_simp⟩) hT33 ?_
      try dsimp only [Act.put]
      try simp only [List.setIfInBounds_toArray, List.set_cons_zero, List.set_cons_succ]
      refine wpAnyH_done (by kernel_rfl) ?_ _
      have bZ := b5.trans (hT33.mono b5.size)
      have mZ := m5.below hT33
      clear pF pG hld m5 b5
      go_wp2_with fail
      refine (mfreeze_any mZ).mono ?_
      rintro _ u1 ⟨rfl, mY, kY⟩
      have bY := bZ.trans (kY.below bZ.size (fun k e => by subst e; exact mZ.qb))
      go_wp2_with fail
      have pc : Calls Tryd.prog 9 #[.pointer (some ⟨q, 0, none⟩), .agg #[.string ⟨#[98]⟩, .int .u32 0, .int .u64 3, .int .u64 0, .int .u8 0, .string ⟨#[]⟩], .int .i64 1] u1 _ := mput_frozen mY (⟨⟨#[98]⟩, 0, 3, 0, 0, ⟨#[]⟩⟩ : Ft) 1
      refine pc.mono ?_
      clear pc
      rintro _ u2 ⟨rfl, kU⟩
      go_wp2
      go_ret
      exact ⟨rfl, bw.trans ((bY.trans (kU.mono bY.size)).mono bw.size)⟩
    · have hT34 := hT15.alloc hT15.size (.cells #[.string ⟨#[97]⟩, .int .u32 5, .int .u64 1, .int .u64 0, .int .u8 0, .string ⟨#[120]⟩] 27)
      go_simp
      refine hK.out _ _ hT34 (fun _ => ?_)
      clear hK K'
      try dsimp only [Act.put]
      try simp only [List.setIfInBounds_toArray, List.set_cons_zero, List.set_cons_succ]
      refine wpAnyH_ready (rs := [9]) (by kernel_rfl) (by simp) (AllReadyH.cons rfl (fun K' hK => ?_) AllReadyH.nil)
      have rX := Rd.ft v15 27 (⟨⟨#[97]⟩, 5, 1, 0, 0, ⟨#[120]⟩⟩ : Ft)
      go_simp
      go_at_call 18
      refine (pG.out _ hT34).mono ?_
      rintro _ v35 ⟨vG, rfl, rowG, kG⟩
      replace rowG : v35.ownsRow _ 27 6 vG 1 (ftC [(⟨⟨#[97]⟩, 5, 1, 0, 0, ⟨#[120]⟩⟩ : Ft)]) := rowG
      obtain ⟨AG, gcG, rfl⟩ : ∃ A c, vG = .slice A 1 c := by
        obtain ⟨g5, cap5, e5, _⟩ := rowG.form (by omega)
        exact ⟨_, _, e5⟩
      have hT35 := hT34.trans (kG.mono hT34.size)
      refine hK.out _ _ hT35 (fun _ => ?_)
      clear hK K'
      try dsimp only [Act.put]
      try simp only [List.setIfInBounds_toArray, List.set_cons_zero, List.set_cons_succ]
      have rG : Rd v35 6 AG 1 (ftC [(⟨⟨#[97]⟩, 5, 1, 0, 0, ⟨#[120]⟩⟩ : Ft)]) := Rd.of_own rowG
      refine wpAnyH_ready (rs := [12]) (by kernel_rfl) (by simp) (AllReadyH.cons rfl (fun K' hK => ?_) AllReadyH.nil)
      go_simp
      go_at_call 17
      refine (sameFt_yes _ AG _ 1 gcG 1 [(⟨⟨#[97]⟩, 5, 1, 0, 0, ⟨#[120]⟩⟩ : Ft)] rfl (by omega) rG (Rd.below rX kG)).mono ?_
      rintro _ v36 ⟨rfl, kS⟩
      have hT36 := hT35.trans (kS.mono hT35.size)
      refine hK.out _ _ hT36 (fun _ => ?_)
      clear hK K'
      try dsimp only [Act.put]
      try simp only [List.setIfInBounds_toArray, List.set_cons_zero, List.set_cons_succ]
      refine wpAnyH_take (i := 13) (v := .bool false) rfl (by kernel_rfl) (by kernel_rfl) (by kernel_rfl) (fun _ _ _ h => h) (.inl ⟨by rfl, fun W hW => by go_simp⟩) hT36 ?_
      try dsimp only [Act.put]
      try simp only [List.setIfInBounds_toArray, List.set_cons_zero, List.set_cons_succ]
      refine wpAnyH_take (i := 14) (v := .bool false) rfl (by kernel_rfl) (by kernel_rfl) (by kernel_rfl) (fun _ _ _ h => h) (.inl ⟨by rfl, fun W hW => by go_simp⟩) hT36 ?_
      try dsimp only [Act.put]
      try simp only [List.setIfInBounds_toArray, List.set_cons_zero, List.set_cons_succ]
      refine wpAnyH_done (by kernel_rfl) ?_ _
      have bZ := b5.trans (hT36.mono b5.size)
      have mZ := m5.below hT36
      clear pF pG hld m5 b5
      go_wp2_with fail
      refine (mfreeze_any mZ).mono ?_
      rintro _ u1 ⟨rfl, mY, kY⟩
      have bY := bZ.trans (kY.below bZ.size (fun k e => by subst e; exact mZ.qb))
      go_wp2_with fail
      have pc : Calls Tryd.prog 9 #[.pointer (some ⟨q, 0, none⟩), .agg #[.string ⟨#[98]⟩, .int .u32 0, .int .u64 3, .int .u64 0, .int .u8 0, .string ⟨#[]⟩], .int .i64 1] u1 _ := mput_frozen mY (⟨⟨#[98]⟩, 0, 3, 0, 0, ⟨#[]⟩⟩ : Ft) 1
      refine pc.mono ?_
      clear pc
      rintro _ u2 ⟨rfl, kU⟩
      go_wp2
      go_ret
      exact ⟨rfl, bw.trans ((bY.trans (kU.mono bY.size)).mono bw.size)⟩
end Go.Proofs.YtdifdbkbpeanhaaDoor
