/- The walks of mems' Put. -/
import Derived.Test.YtdifdbkbpeanhaaDoorMem
import Derived.Test.YtdifdbkbpeanhaaDoorStill
import Derived.Deep.RegionHeld3
import Derived.Deep.MidRow
import Derived.IntWalk
set_option linter.unusedSimpArgs false
set_option linter.unusedVariables false
namespace Go.Proofs.YtdifdbkbpeanhaaDoor
open Go Go.RowKit Herb
section
variable {w : World} {base q p g cap : Nat} {A : Option Addr} {M : List (List UInt8 × Int)} {fs : List Ft} {b : Int} {fr : Bool}
theorem fact_size : (Tryd.prog.info? 27).map (·.size) = some 6 := by kernel_rfl
theorem mput_frozen (h : MemAt w base q p g A cap M fs b true) (f : Ft) (H : Int) :
    Calls Tryd.prog 9 #[.pointer (some ⟨q, 0, none⟩), f.val, .int .i64 H] w fun e w' => e = .returned (.int .i64 12) ∧ Below w.heap.size w w' := by
  have hb := (Below.refl w.heap.size w).alloc (Nat.le_refl _) (.cells #[.string f.k, .int .u32 (f.va : Int), .int .u64 (f.se : Int), .int .u64 (f.li : Int), .int .u8 (f.ki : Int), .string f.v] 27)
  have ht := mthere_yes (h.below hb)
  have hc := (h.below hb).box.cell
  clear h
  go_enter Tryd.func9, Tryd.ntmps9
  go_wp2_with fail
  refine ht.mono ?_
  clear ht
  rintro _ _ ⟨rfl, rfl⟩
  go_wp2
  go_ret
  exact ⟨rfl, hb⟩
theorem mput_no (h : MemAt w base q p g A cap M fs b false) (f : Ft) (H : Int) (hm : mayB f.k f.se f.ki = false) :
    Calls Tryd.prog 9 #[.pointer (some ⟨q, 0, none⟩), f.val, .int .i64 H] w fun e w' => e = .returned (.int .i64 1) ∧ Below w.heap.size w w' := by
  have hb := (Below.refl w.heap.size w).alloc (Nat.le_refl _) (.cells #[.string f.k, .int .u32 (f.va : Int), .int .u64 (f.se : Int), .int .u64 (f.li : Int), .int .u8 (f.ki : Int), .string f.v] 27)
  have kb := Blk.new w 27 #[.string f.k, .int .u32 (f.va : Int), .int .u64 (f.se : Int), .int .u64 (f.li : Int), .int .u8 (f.ki : Int), .string f.v]
  have ht := mthere_yes (h.below hb)
  have hc := (h.below hb).box.cell
  have cb := kb.cell
  have hp := put_no (w.alloc (.cells #[.string f.k, .int .u32 (f.va : Int), .int .u64 (f.se : Int), .int .u64 (f.li : Int), .int .u8 (f.ki : Int), .string f.v] 27)) f.k f.v f.va f.se f.li f.ki hm
  clear h
  go_enter Tryd.func9, Tryd.ntmps9
  go_wp2_with fail
  refine ht.mono ?_
  clear ht
  rintro _ _ ⟨rfl, rfl⟩
  go_wp2_with fail
  refine hp.mono ?_
  clear hp
  rintro _ w2 ⟨rfl, b2⟩
  replace b2 := hb.trans (b2.mono hb.size)
  clear hc cb hb kb
  go_wp2
  go_ret
  exact ⟨rfl, b2⟩
set_option maxRecDepth 100000 in
set_option maxHeartbeats 1600000 in
theorem mput_bad (h : MemAt w base q p g A cap M fs b false) (hM : M.length ≤ 100000) (hF : fs.length ≤ 100000) (f : Ft) (hf : f.fit) (H : Int) (hm : mayB f.k f.se f.ki = true) (hH : H < 1 ∨ 8 < H) :
    Calls Tryd.prog 9 #[.pointer (some ⟨q, 0, none⟩), f.val, .int .i64 H] w fun e w' => e = .returned (.int .i64 1) ∧ Below w.heap.size w w' := by
  have hb := (Below.refl w.heap.size w).alloc (Nat.le_refl _) (.cells #[.string f.k, .int .u32 (f.va : Int), .int .u64 (f.se : Int), .int .u64 (f.li : Int), .int .u8 (f.ki : Int), .string f.v] 27)
  have kb := Blk.new w 27 #[.string f.k, .int .u32 (f.va : Int), .int .u64 (f.se : Int), .int .u64 (f.li : Int), .int .u8 (f.ki : Int), .string f.v]
  have ht := mthere_yes (h.below hb)
  have hc := (h.below hb).box.cell
  have cb := kb.cell
  have hp := put_yes (w.alloc (.cells #[.string f.k, .int .u32 (f.va : Int), .int .u64 (f.se : Int), .int .u64 (f.li : Int), .int .u8 (f.ki : Int), .string f.v] 27)) f.k f.v f.va f.se f.li f.ki hf.1 hf.2.1 hf.2.2.2 hm
  have hfol : Tryd.prog.follows .mixedOrders = true := by kernel_rfl
  obtain ⟨n, hn⟩ : ∃ n, fs.length = n := ⟨_, rfl⟩
  rw [hn] at hc
  replace h := Lib.hid h
  replace hn := Lib.hid hn
  go_enter Tryd.func9, Tryd.ntmps9
  go_wp2_with fail
  refine ht.mono ?_
  clear ht
  rintro _ _ ⟨rfl, rfl⟩
  go_wp2_with fail
  refine hp.mono ?_
  clear hp
  rintro _ w2 ⟨kg, kn, rfl, hkn, hkg, hkB, b2⟩
  replace kb := kb.below b2 kb.lt
  replace b2 := hb.trans (b2.mono hb.size)
  have h2 := h.out.below b2
  clear hc cb hb
  have hc := h2.box.cell
  rw [hn.out] at hc
  replace h2 := Lib.hid h2
  replace hkn := Lib.hid hkn
  replace kb := Lib.hid kb
  go_wp2_with fail
  refine still_tail 13 hfol (by kernel_rfl) ?_
  simp only [List.take_succ_cons, List.take_zero, List.drop_succ_cons, List.drop_zero]
  iterate 13 still_step
  refine wpStill_nil ?_
  have b3 := b2.drew
  have hkB3 : Bs w2.drew (some ⟨kg, 0, none⟩) (Herb.putL f.k f.va f.se f.ki) := Rd.below hkB (Below.refl _ _).drew
  have h3 := h2.out.below (Below.refl _ _).drew
  go_wp2_with fail
  refine (putL_bad w2.drew base p g M h3.sk _ _ _ _ _ hH).mono ?_
  rintro _ _ ⟨rfl, rfl⟩
  clear hc
  go_wp2
  go_ret
  exact ⟨rfl, b3⟩
set_option maxRecDepth 100000 in
set_option maxHeartbeats 1600000 in
theorem mput_there (h : MemAt w base q p g A cap M fs b false) (hM : M.length ≤ 100000) (hF : fs.length ≤ 100000) (f : Ft) (hf : f.fit) (H : Int) (hm : mayB f.k f.se f.ki = true) (hH1 : 1 ≤ H) (hH8 : H ≤ 8) (hh : hasM M (Herb.putL f.k f.va f.se f.ki) = true) :
    Calls Tryd.prog 9 #[.pointer (some ⟨q, 0, none⟩), f.val, .int .i64 H] w fun e w' => e = .returned (.int .i64 8) ∧ Below w.heap.size w w' := by
  have hb := (Below.refl w.heap.size w).alloc (Nat.le_refl _) (.cells #[.string f.k, .int .u32 (f.va : Int), .int .u64 (f.se : Int), .int .u64 (f.li : Int), .int .u8 (f.ki : Int), .string f.v] 27)
  have kb := Blk.new w 27 #[.string f.k, .int .u32 (f.va : Int), .int .u64 (f.se : Int), .int .u64 (f.li : Int), .int .u8 (f.ki : Int), .string f.v]
  have ht := mthere_yes (h.below hb)
  have hc := (h.below hb).box.cell
  have cb := kb.cell
  have hp := put_yes (w.alloc (.cells #[.string f.k, .int .u32 (f.va : Int), .int .u64 (f.se : Int), .int .u64 (f.li : Int), .int .u8 (f.ki : Int), .string f.v] 27)) f.k f.v f.va f.se f.li f.ki hf.1 hf.2.1 hf.2.2.2 hm
  have hfol : Tryd.prog.follows .mixedOrders = true := by kernel_rfl
  obtain ⟨n, hn⟩ : ∃ n, fs.length = n := ⟨_, rfl⟩
  rw [hn] at hc
  replace h := Lib.hid h
  replace hn := Lib.hid hn
  go_enter Tryd.func9, Tryd.ntmps9
  go_wp2_with fail
  refine ht.mono ?_
  clear ht
  rintro _ _ ⟨rfl, rfl⟩
  go_wp2_with fail
  refine hp.mono ?_
  clear hp
  rintro _ w2 ⟨kg, kn, rfl, hkn, hkg, hkB, b2⟩
  replace kb := kb.below b2 kb.lt
  replace b2 := hb.trans (b2.mono hb.size)
  have h2 := h.out.below b2
  clear hc cb hb
  have hc := h2.box.cell
  rw [hn.out] at hc
  replace h2 := Lib.hid h2
  replace hkn := Lib.hid hkn
  replace kb := Lib.hid kb
  go_wp2_with fail
  refine still_tail 13 hfol (by kernel_rfl) ?_
  simp only [List.take_succ_cons, List.take_zero, List.drop_succ_cons, List.drop_zero]
  iterate 13 still_step
  refine wpStill_nil ?_
  have b3 := b2.drew
  have hkB3 : Bs w2.drew (some ⟨kg, 0, none⟩) (Herb.putL f.k f.va f.se f.ki) := Rd.below hkB (Below.refl _ _).drew
  have h3 := h2.out.below (Below.refl _ _).drew
  go_wp2_with fail
  refine (putL_there w2.drew base p g M h3.sk hM _ _ _ _ hkn.out.symm hkB3 _ _ hH1 hH8 hh).mono ?_
  rintro _ w4 ⟨rfl, b4⟩
  replace b4 := b3.trans (b4.mono b3.size)
  clear hc
  go_wp2
  go_ret
  exact ⟨rfl, b4⟩
set_option maxRecDepth 100000 in
set_option maxHeartbeats 1600000 in
theorem mput_new (h : MemAt w base q p g A cap M fs b false) (hM : M.length ≤ 100000) (hF : fs.length ≤ 100000) (f : Ft) (hf : f.fit) (H : Int) (hm : mayB f.k f.se f.ki = true) (hH1 : 1 ≤ H) (hH8 : H ≤ 8) (hh : hasM M (Herb.putL f.k f.va f.se f.ki) = false) (hb0 : 0 ≤ b) (hbb : b + ((Herb.putL f.k f.va f.se f.ki).length + f.v.size : Nat) ≤ 1000000000000) :
    Calls Tryd.prog 9 #[.pointer (some ⟨q, 0, none⟩), f.val, .int .i64 H] w fun e w' => ∃ g' A' cap', e = .returned (.int .i64 0) ∧ MemAt w' base q p g' A' cap' (insM M (Herb.putL f.k f.va f.se f.ki) fs.length) (fs ++ [f]) (b + ((Herb.putL f.k f.va f.se f.ki).length + f.v.size : Nat)) false ∧
      KeepBut (memS q p g A fs.length cap) w w' ∧ (∀ k, memS q p g' A' (fs ++ [f]).length cap' k → memS q p g A fs.length cap k ∨ w.heap.size ≤ k) := by
  have hb := (Below.refl w.heap.size w).alloc (Nat.le_refl _) (.cells #[.string f.k, .int .u32 (f.va : Int), .int .u64 (f.se : Int), .int .u64 (f.li : Int), .int .u8 (f.ki : Int), .string f.v] 27)
  have kb := Blk.new w 27 #[.string f.k, .int .u32 (f.va : Int), .int .u64 (f.se : Int), .int .u64 (f.li : Int), .int .u8 (f.ki : Int), .string f.v]
  have ht := mthere_yes (h.below hb)
  have hc := (h.below hb).box.cell
  have cb := kb.cell
  have hp := put_yes (w.alloc (.cells #[.string f.k, .int .u32 (f.va : Int), .int .u64 (f.se : Int), .int .u64 (f.li : Int), .int .u8 (f.ki : Int), .string f.v] 27)) f.k f.v f.va f.se f.li f.ki hf.1 hf.2.1 hf.2.2.2 hm
  have hfol : Tryd.prog.follows .mixedOrders = true := by kernel_rfl
  obtain ⟨n, hn⟩ : ∃ n, fs.length = n := ⟨_, rfl⟩
  rw [hn] at hc
  replace h := Lib.hid h
  replace hn := Lib.hid hn
  go_enter Tryd.func9, Tryd.ntmps9
  go_wp2_with fail
  refine ht.mono ?_
  clear ht
  rintro _ _ ⟨rfl, rfl⟩
  go_wp2_with fail
  refine hp.mono ?_
  clear hp
  rintro _ w2 ⟨kg, kn, rfl, hkn, hkg, hkB, b2⟩
  replace kb := kb.below b2 kb.lt
  replace b2 := hb.trans (b2.mono hb.size)
  have h2 := h.out.below b2
  clear hc cb hb
  have hc := h2.box.cell
  rw [hn.out] at hc
  replace h2 := Lib.hid h2
  replace hkn := Lib.hid hkn
  replace kb := Lib.hid kb
  go_wp2_with fail
  refine still_tail 13 hfol (by kernel_rfl) ?_
  simp only [List.take_succ_cons, List.take_zero, List.drop_succ_cons, List.drop_zero]
  iterate 13 still_step
  refine wpStill_nil ?_
  have b3 := b2.drew
  have hkB3 : Bs w2.drew (some ⟨kg, 0, none⟩) (Herb.putL f.k f.va f.se f.ki) := Rd.below hkB (Below.refl _ _).drew
  have h3 := h2.out.below (Below.refl _ _).drew
  go_wp2_with fail
  have hkl : (Herb.putL f.k f.va f.se f.ki).length ≤ 140737488355328 := by omega
  refine (putL_new w2.drew base p g M h3.sk hM _ _ kn _ hkn.out.symm (by rw [hkn.out]; exact hkl) hkB3 _ _ hH1 hH8 hh).mono ?_
  rintro _ w4 ⟨g', rfl, hS4, hk4, hg4⟩
  have hap := h3.apart
  have hbS : ∀ k, k = p ∨ k = g → memS q p g A fs.length cap k := fun k e => .inr (e.imp (fun h => h) .inl)
  have kq4 : Blk w4 q 56 #[.pointer (some ⟨p, 0, none⟩), .slice A fs.length cap, .int .i64 b, .bool false] := (hk4.block q h3.box.lt (by rintro (e | e); exact hap.1 e; exact hap.2.1 e)).trans h3.box
  have kf4 : Blk w4 w.heap.size 27 #[.string f.k, .int .u32 (f.va : Int), .int .u64 (f.se : Int), .int .u64 (f.li : Int), .int .u8 (f.ki : Int), .string f.v] := (hk4.block w.heap.size kb.out.lt (by have := h.out.sk.lt; rintro (e | e) <;> omega)).trans kb.out
  have row4 := own_keep h3.row hk4 (fun k e => by rintro (e2 | e2); exact (hap.2.2.2 k e).2.1 e2; exact (hap.2.2.2 k e).2.2 e2)
  have k24 := (KeepBut.of_below (S := memS q p g A fs.length cap) b3).trans (hk4.weak (S' := memS q p g A fs.length cap) (fun k _ e => .inr (e.imp (fun h => h) .inl)))
  have hqF : q ≠ w.heap.size := by have := h.out.box.lt; omega
  have hAq : (Value.slice A n cap).ownBlock ≠ some q := fun e => (hap.2.2.2 q (by rw [hn.out]; exact e)).1 rfl
  have hAF : (Value.slice A n cap).ownBlock ≠ some w.heap.size := fun e => by
    have := (own_ty h.out.row (by rw [hn.out]; exact e)).2.1
    omega
  have hpg4 := hS4.types
  have hlt4 := hS4.lt
  rw [hn.out] at kq4 row4
  have hbw : base ≤ w4.heap.size := by omega
  have hF' : n ≤ 100000 := by rw [← hn.out]; exact hF
  obtain ⟨F, hFe⟩ : ∃ F, w.heap.size = F := ⟨_, rfl⟩
  rw [hFe] at kf4 hqF hAF
  have hld := fun (W : World) (hW : KeepBut (fun k => k = q ∨ (Value.slice A n cap).ownBlock = some k) w4 W) => (show W.rangeAt F 0 [.string f.k, .int .u32 (f.va : Int), .int .u64 (f.se : Int), .int .u64 (f.li : Int), .int .u8 (f.ki : Int), .string f.v] from fun j v hv => by
    rw [Nat.zero_add, cell_of_row W F j _ _ _ ((hW.block F kf4.lt (by rintro (e | e); exact hqF e.symm; exact hAF e)).trans kf4)]
    simpa using hv)
  replace hld := Lib.hid hld
  have hc4 := kq4.cell
  have hS0 : KeepBut (fun k => k = q ∨ (Value.slice A n cap).ownBlock = some k) w4 w4.drew := (KeepBut.refl w4).drew
  have hu := Tryd.underlying27
  have hi := fact_size
  have hsz2 : w.heap.size ≤ w2.drew.heap.size := b3.size
  clear hc h3 b3 b2
  rw [hFe]
  go_wp2_with fail
  refine wp_region_held (S := fun W => KeepBut (fun k => k = q ∨ (Value.slice A n cap).ownBlock = some k) w4 W) hfol ?_
  refine wpAnyH_take (i := 0) (v := .pointer (some ⟨q, 0, none⟩)) rfl (by kernel_rfl) (by kernel_rfl) (by kernel_rfl) (fun _ _ _ h => h) (.inl ⟨by rfl, fun W hW => by go_simp⟩) hS0 ?_
  try dsimp only [Act.put]
  try simp only [List.setIfInBounds_toArray, List.set_cons_zero, List.set_cons_succ]
  refine wpAnyH_take (i := 1) (v := .pointer (some ⟨q, 0, none⟩)) rfl (by kernel_rfl) (by kernel_rfl) (by kernel_rfl) (fun _ _ _ h => h) (.inl ⟨by rfl, fun W hW => by go_simp⟩) hS0 ?_
  try dsimp only [Act.put]
  try simp only [List.setIfInBounds_toArray, List.set_cons_zero, List.set_cons_succ]
  refine wpAnyH_take (i := 2) (v := .pointer (some ⟨q, 0, none⟩)) rfl (by kernel_rfl) (by kernel_rfl) (by kernel_rfl) (fun _ _ _ h => h) (.inl ⟨by rfl, fun W hW => by go_simp⟩) hS0 ?_
  try dsimp only [Act.put]
  try simp only [List.setIfInBounds_toArray, List.set_cons_zero, List.set_cons_succ]
  refine wpAnyH_take (i := 3) (v := .pointer (some ⟨q, 0, none⟩)) rfl (by kernel_rfl) (by kernel_rfl) (by kernel_rfl) (fun _ _ _ h => h) (.inl ⟨by rfl, fun W hW => by go_simp⟩) hS0 ?_
  try dsimp only [Act.put]
  try simp only [List.setIfInBounds_toArray, List.set_cons_zero, List.set_cons_succ]
  refine wpAnyH_take (i := 4) (v := .pointer (some ⟨q, 1, none⟩)) rfl (by kernel_rfl) (by kernel_rfl) (by kernel_rfl) (fun _ _ _ h => h) (.inl ⟨by rfl, fun W hW => by go_simp⟩) hS0 ?_
  try dsimp only [Act.put]
  try simp only [List.setIfInBounds_toArray, List.set_cons_zero, List.set_cons_succ]
  refine wpAnyH_take (i := 6) (v := .agg #[.string f.k, .int .u32 (f.va : Int), .int .u64 (f.se : Int), .int .u64 (f.li : Int), .int .u8 (f.ki : Int), .string f.v]) rfl (by kernel_rfl) (by kernel_rfl) (by kernel_rfl) (fun _ _ _ h => h) (yieldsIf_load_mid (by rfl) 27 (.tmp 4) rfl F 0 rfl [.string f.k, .int .u32 (f.va : Int), .int .u64 (f.se : Int), .int .u64 (f.li : Int), .int .u8 (f.ki : Int), .string f.v] _ hld.out hu rfl hi) hS0 ?_
  try dsimp only [Act.put]
  try simp only [List.setIfInBounds_toArray, List.set_cons_zero, List.set_cons_succ]
  refine wpAnyH_ready (rs := [5, 7]) (by kernel_rfl) (by simp) (AllReadyH.cons rfl (fun K' hK => ?_) (AllReadyH.cons rfl (fun K' hK => ?_) AllReadyH.nil))
  · go_simp
    refine hK.out _ _ hS0 (fun _ => ?_)
    clear hK K'
    try dsimp only [Act.put]
    try simp only [List.setIfInBounds_toArray, List.set_cons_zero, List.set_cons_succ]
    refine wpAnyH_ready (rs := [7]) (by kernel_rfl) (by simp) (AllReadyH.cons rfl (fun K' hK => ?_) AllReadyH.nil)
    go_simp
    refine hK.out _ _ (hS0.alloc _) (fun hS1 => ?_)
    clear hK K'
    try dsimp only [Act.put]
    try simp only [List.setIfInBounds_toArray, List.set_cons_zero, List.set_cons_succ]
    have hr1 : Rd (w4.drew.alloc (.cells #[.string f.k, .int .u32 (f.va : Int), .int .u64 (f.se : Int), .int .u64 (f.li : Int), .int .u8 (f.ki : Int), .string f.v] 27)) 6 (some ⟨w4.heap.size, 0, none⟩) 1 (ftC [f]) := Rd.ft w4.drew _ f
    have hown1 := (row4.drew).alloc (.cells #[.string f.k, .int .u32 (f.va : Int), .int .u64 (f.se : Int), .int .u64 (f.li : Int), .int .u8 (f.ki : Int), .string f.v] 27)
    have kq1 := (kq4.drew).alloc (.cells #[.string f.k, .int .u32 (f.va : Int), .int .u64 (f.se : Int), .int .u64 (f.li : Int), .int .u8 (f.ki : Int), .string f.v] 27)
    refine wpAnyH_ready (rs := [8]) (by kernel_rfl) (by simp) (AllReadyH.cons rfl (fun K' hK => ?_) AllReadyH.nil)
    refine step_app _ (by rfl) (.tmp 47) (.tmp 49) (by rfl) Tryd.underlying36 ftInfo (by rfl) (by omega) hown1 (by rfl) _ 1 1 hr1 (by rfl) (ftC_one _) (by unfold maxLen; omega) (by omega) (by simp; omega) ?_
    intro v5 w5 hown5 hgrow5 hlie5
    obtain ⟨g5, cap5, rfl, hg5, hg5'⟩ := hown5.form (by omega)
    have hS2 : KeepBut (fun k => k = q ∨ (Value.slice A n cap).ownBlock = some k) w4 w5 := hS1.trans (KeepBut.of_grown hgrow5 (fun k e => .inr e))
    have kq5 := kq1.grown hgrow5 (fun e => hAq e.symm)
    have hq5 : q ≠ g5 := fun e => own_neF hown5 kq5 (by decide) (by simp [Value.ownBlock, e])
    have hg5w : (Value.slice A n cap).ownBlock = some g5 ∨ w4.heap.size ≤ g5 := by
      rcases hlie5 with h1 | h1
      · simp [Value.ownBlock] at h1 ⊢; exact .inl h1.symm
      · simp [Value.ownBlock] at h1; exact .inr (by omega)
    refine hK.out _ _ hS2 (fun _ => ?_)
    clear hK K'
    try dsimp only [Act.put]
    try simp only [List.setIfInBounds_toArray, List.set_cons_zero, List.set_cons_succ]
    refine wpAnyH_take (i := 9) (v := .pointer (some ⟨q, 0, none⟩)) rfl (by kernel_rfl) (by kernel_rfl) (by kernel_rfl) (fun _ _ _ h => h) (.inl ⟨by rfl, fun W hW => by go_simp⟩) hS2 ?_
    try dsimp only [Act.put]
    try simp only [List.setIfInBounds_toArray, List.set_cons_zero, List.set_cons_succ]
    refine wpAnyH_take (i := 10) (v := .pointer (some ⟨q, 0, none⟩)) rfl (by kernel_rfl) (by kernel_rfl) (by kernel_rfl) (fun _ _ _ h => h) (.inl ⟨by rfl, fun W hW => by go_simp⟩) hS2 ?_
    try dsimp only [Act.put]
    try simp only [List.setIfInBounds_toArray, List.set_cons_zero, List.set_cons_succ]
    refine wpAnyH_take (i := 11) (v := .pointer (some ⟨q, 1, none⟩)) rfl (by kernel_rfl) (by kernel_rfl) (by kernel_rfl) (fun _ _ _ h => h) (.inl ⟨by rfl, fun W hW => by go_simp⟩) hS2 ?_
    try dsimp only [Act.put]
    try simp only [List.setIfInBounds_toArray, List.set_cons_zero, List.set_cons_succ]
    have hc5 := kq5.cell
    have hf5 := kq5.frozen
    refine wpAnyH_ready (rs := [12]) (by kernel_rfl) (by simp) (AllReadyH.cons rfl (fun K' hK => ?_) AllReadyH.nil)
    have hS3 : KeepBut (fun k => k = q ∨ (Value.slice A n cap).ownBlock = some k) w4 (w5.setCell ⟨q, 1, none⟩ (.slice (some ⟨g5, 0, none⟩) (n + 1) cap5)) := KeepBut.setCell (S := fun k => k = q ∨ (Value.slice A n cap).ownBlock = some k) (p := ⟨q, 1, none⟩) hS2 (.inl rfl) _
    go_simp
    refine hK.out _ _ hS3 (fun _ => ?_)
    clear hK K'
    try dsimp only [Act.put]
    try simp only [List.setIfInBounds_toArray, List.set_cons_zero, List.set_cons_succ]
    refine wpAnyH_done (by kernel_rfl) ?_ _
    have kq6 := kq5.store 1 (.slice (some ⟨g5, 0, none⟩) (n + 1) cap5)
    have row6 := own_keep hown5 (KeepBut.set_at w5 q 1 (.slice (some ⟨g5, 0, none⟩) (n + 1) cap5)) (fun k e e2 => hq5 (by subst e2; simp [Value.ownBlock] at e; exact e.symm))
    have kf6 : Blk (w5.setCell ⟨q, 1, none⟩ (.slice (some ⟨g5, 0, none⟩) (n + 1) cap5)) F 27 _ := (hS3.block F kf4.lt (by rintro (e | e); exact hqF e.symm; exact hAF e)).trans kf4
    generalize w5.setCell ⟨q, 1, none⟩ (.slice (some ⟨g5, 0, none⟩) (n + 1) cap5) = w6 at *
    clear hc5 hf5 hc4 hld hu hi
    have hc6 := kq6.cell
    have hcf6 := kf6.cell
    have hf6 := kq6.frozen
    go_wp2_with fail
    replace h := Lib.hid h
    replace h2 := Lib.hid h2
    have hvs : f.v.size ≤ 1000000000000 := by omega
    have hbb' : b ≤ 1000000000000 := by omega
    refine still_tail 13 hfol (by kernel_rfl) ?_
    simp only [List.take_succ_cons, List.take_zero, List.drop_succ_cons, List.drop_zero]
    iterate 13 still_step
    refine wpStill_nil ?_
    have hc7 := (kq6.drew).cell
    have hf7 := (kq6.drew).frozen
    go_wp2
    go_ret
    have e1 : wrap64 (b + wrap64 ((kn : Int) + (f.v.size : Int))) = b + ((Herb.putL f.k f.va f.se f.ki).length + f.v.size : Nat) := by
      rw [← hkn.out]
      have hkk := hkn.out
      rw [IntWalk.wrap64_in ((kn : Int) + (f.v.size : Int)) (by omega), IntWalk.wrap64_in _ (by omega)]
      omega
    have hl1 : (fs ++ [f]).length = n + 1 := by rw [List.length_append, hn.out]; rfl
    have hS7 : KeepBut (fun k => k = q ∨ (Value.slice A n cap).ownBlock = some k) w4 (w6.setCell ⟨q, 2, none⟩ (.int .i64 (wrap64 (b + wrap64 ((kn : Int) + (f.v.size : Int)))))).drew := (KeepBut.setCell (S := fun k => k = q ∨ (Value.slice A n cap).ownBlock = some k) (p := ⟨q, 2, none⟩) hS3 (.inl rfl) _).drew
    have kq8 := (kq6.store 2 (.int .i64 (wrap64 (b + wrap64 ((kn : Int) + (f.v.size : Int)))))).drew
    have row8 := (own_keep row6 (KeepBut.set_at w6 q 2 (.int .i64 (wrap64 (b + wrap64 ((kn : Int) + (f.v.size : Int)))))) (fun k e e2 => hq5 (by subst e2; simp [Value.ownBlock] at e; exact e.symm))).drew
    have hty : ∀ (k : Nat) (cs : Array Value) (t : TypeId) (f : Nat × Nat), w4.heap[k]? = some (.cells cs t f) → t ≠ 56 → t ≠ 27 → ¬ (k = q ∨ (Value.slice A n cap).ownBlock = some k) := fun k cs t f hkk h1 h2 e => by
      rcases e with e | e
      · exact ty_ne hkk kq4 h1 e
      · obtain ⟨_, _, c3, f3, t3⟩ := own_ty row4 e
        exact ty_ne hkk t3 h2 rfl
    obtain ⟨⟨c1, f1, t1⟩, ⟨c2, f2, t2⟩⟩ := hpg4
    have hm := h.out
    refine ⟨g', some ⟨g5, 0, none⟩, cap5, rfl, ⟨?_, ?_, ?_, hm.qb, ?_⟩, ?_, ?_⟩
    · rw [hl1, ← e1]
      simpa using kq8
    · rw [hn.out]
      exact hS4.keep hS7 (hty _ _ _ _ t1 (by decide) (by decide)) (hty _ _ _ _ t2 (by decide) (by decide)) (fun k cs fr hk => hty _ _ _ _ hk (by decide) (by decide))
    · rw [hl1, ftC_append]
      exact row8
    · intro x hx
      rw [hn.out] at hx
      rw [hl1]
      unfold insM at hx
      rcases List.mem_append.1 hx with hx | hx
      · obtain ⟨i, h1, h2⟩ := hm.ix x ((List.takeWhile_prefix _).subset hx)
        exact ⟨i, h1, by have := hn.out; omega⟩
      · rcases List.mem_cons.1 hx with rfl | hx
        · exact ⟨n, rfl, by omega⟩
        · obtain ⟨i, h1, h2⟩ := hm.ix x ((List.dropWhile_suffix _).subset hx)
          exact ⟨i, h1, by have := hn.out; omega⟩
    · refine k24.trans (hS7.weak (fun k _ e => ?_))
      rw [hn.out]
      exact e.imp (fun h => h) (fun h => .inr (.inr h))
    · rintro k (rfl | rfl | rfl | e)
      · exact .inl (.inl rfl)
      · exact .inl (.inr (.inl rfl))
      · rcases hg4 with rfl | h1
        · exact .inl (.inr (.inr (.inl rfl)))
        · exact .inr (by omega)
      · simp [Value.ownBlock] at e
        subst e
        rcases hg5w with h1 | h1
        · exact .inl (.inr (.inr (.inr (by rw [hn.out]; exact h1))))
        · exact .inr (by have := k24.size; omega)
  · go_simp
    refine hK.out _ _ (hS0.alloc _) (fun hS1 => ?_)
    clear hK K'
    try dsimp only [Act.put]
    try simp only [List.setIfInBounds_toArray, List.set_cons_zero, List.set_cons_succ]
    have hcA := ((kq4.alloc (.cells #[.string f.k, .int .u32 (f.va : Int), .int .u64 (f.se : Int), .int .u64 (f.li : Int), .int .u8 (f.ki : Int), .string f.v] 27)).drew).cell
    refine wpAnyH_ready (rs := [5]) (by kernel_rfl) (by simp) (AllReadyH.cons rfl (fun K' hK => ?_) AllReadyH.nil)
    go_simp
    refine hK.out _ _ hS1 (fun _ => ?_)
    clear hK K' hcA
    try dsimp only [Act.put]
    try simp only [List.setIfInBounds_toArray, List.set_cons_zero, List.set_cons_succ]
    have hr1 : Rd (w4.drew.alloc (.cells #[.string f.k, .int .u32 (f.va : Int), .int .u64 (f.se : Int), .int .u64 (f.li : Int), .int .u8 (f.ki : Int), .string f.v] 27)) 6 (some ⟨w4.heap.size, 0, none⟩) 1 (ftC [f]) := Rd.ft w4.drew _ f
    have hown1 := (row4.drew).alloc (.cells #[.string f.k, .int .u32 (f.va : Int), .int .u64 (f.se : Int), .int .u64 (f.li : Int), .int .u8 (f.ki : Int), .string f.v] 27)
    have kq1 := (kq4.drew).alloc (.cells #[.string f.k, .int .u32 (f.va : Int), .int .u64 (f.se : Int), .int .u64 (f.li : Int), .int .u8 (f.ki : Int), .string f.v] 27)
    refine wpAnyH_ready (rs := [8]) (by kernel_rfl) (by simp) (AllReadyH.cons rfl (fun K' hK => ?_) AllReadyH.nil)
    refine step_app _ (by rfl) (.tmp 47) (.tmp 49) (by rfl) Tryd.underlying36 ftInfo (by rfl) (by omega) hown1 (by rfl) _ 1 1 hr1 (by rfl) (ftC_one _) (by unfold maxLen; omega) (by omega) (by simp; omega) ?_
    intro v5 w5 hown5 hgrow5 hlie5
    obtain ⟨g5, cap5, rfl, hg5, hg5'⟩ := hown5.form (by omega)
    have hS2 : KeepBut (fun k => k = q ∨ (Value.slice A n cap).ownBlock = some k) w4 w5 := hS1.trans (KeepBut.of_grown hgrow5 (fun k e => .inr e))
    have kq5 := kq1.grown hgrow5 (fun e => hAq e.symm)
    have hq5 : q ≠ g5 := fun e => own_neF hown5 kq5 (by decide) (by simp [Value.ownBlock, e])
    have hg5w : (Value.slice A n cap).ownBlock = some g5 ∨ w4.heap.size ≤ g5 := by
      rcases hlie5 with h1 | h1
      · simp [Value.ownBlock] at h1 ⊢; exact .inl h1.symm
      · simp [Value.ownBlock] at h1; exact .inr (by omega)
    refine hK.out _ _ hS2 (fun _ => ?_)
    clear hK K'
    try dsimp only [Act.put]
    try simp only [List.setIfInBounds_toArray, List.set_cons_zero, List.set_cons_succ]
    refine wpAnyH_take (i := 9) (v := .pointer (some ⟨q, 0, none⟩)) rfl (by kernel_rfl) (by kernel_rfl) (by kernel_rfl) (fun _ _ _ h => h) (.inl ⟨by rfl, fun W hW => by go_simp⟩) hS2 ?_
    try dsimp only [Act.put]
    try simp only [List.setIfInBounds_toArray, List.set_cons_zero, List.set_cons_succ]
    refine wpAnyH_take (i := 10) (v := .pointer (some ⟨q, 0, none⟩)) rfl (by kernel_rfl) (by kernel_rfl) (by kernel_rfl) (fun _ _ _ h => h) (.inl ⟨by rfl, fun W hW => by go_simp⟩) hS2 ?_
    try dsimp only [Act.put]
    try simp only [List.setIfInBounds_toArray, List.set_cons_zero, List.set_cons_succ]
    refine wpAnyH_take (i := 11) (v := .pointer (some ⟨q, 1, none⟩)) rfl (by kernel_rfl) (by kernel_rfl) (by kernel_rfl) (fun _ _ _ h => h) (.inl ⟨by rfl, fun W hW => by go_simp⟩) hS2 ?_
    try dsimp only [Act.put]
    try simp only [List.setIfInBounds_toArray, List.set_cons_zero, List.set_cons_succ]
    have hc5 := kq5.cell
    have hf5 := kq5.frozen
    refine wpAnyH_ready (rs := [12]) (by kernel_rfl) (by simp) (AllReadyH.cons rfl (fun K' hK => ?_) AllReadyH.nil)
    have hS3 : KeepBut (fun k => k = q ∨ (Value.slice A n cap).ownBlock = some k) w4 (w5.setCell ⟨q, 1, none⟩ (.slice (some ⟨g5, 0, none⟩) (n + 1) cap5)) := KeepBut.setCell (S := fun k => k = q ∨ (Value.slice A n cap).ownBlock = some k) (p := ⟨q, 1, none⟩) hS2 (.inl rfl) _
    go_simp
    refine hK.out _ _ hS3 (fun _ => ?_)
    clear hK K'
    try dsimp only [Act.put]
    try simp only [List.setIfInBounds_toArray, List.set_cons_zero, List.set_cons_succ]
    refine wpAnyH_done (by kernel_rfl) ?_ _
    have kq6 := kq5.store 1 (.slice (some ⟨g5, 0, none⟩) (n + 1) cap5)
    have row6 := own_keep hown5 (KeepBut.set_at w5 q 1 (.slice (some ⟨g5, 0, none⟩) (n + 1) cap5)) (fun k e e2 => hq5 (by subst e2; simp [Value.ownBlock] at e; exact e.symm))
    have kf6 : Blk (w5.setCell ⟨q, 1, none⟩ (.slice (some ⟨g5, 0, none⟩) (n + 1) cap5)) F 27 _ := (hS3.block F kf4.lt (by rintro (e | e); exact hqF e.symm; exact hAF e)).trans kf4
    generalize w5.setCell ⟨q, 1, none⟩ (.slice (some ⟨g5, 0, none⟩) (n + 1) cap5) = w6 at *
    clear hc5 hf5 hc4 hld hu hi
    have hc6 := kq6.cell
    have hcf6 := kf6.cell
    have hf6 := kq6.frozen
    go_wp2_with fail
    replace h := Lib.hid h
    replace h2 := Lib.hid h2
    have hvs : f.v.size ≤ 1000000000000 := by omega
    have hbb' : b ≤ 1000000000000 := by omega
    refine still_tail 13 hfol (by kernel_rfl) ?_
    simp only [List.take_succ_cons, List.take_zero, List.drop_succ_cons, List.drop_zero]
    iterate 13 still_step
    refine wpStill_nil ?_
    have hc7 := (kq6.drew).cell
    have hf7 := (kq6.drew).frozen
    go_wp2
    go_ret
    have e1 : wrap64 (b + wrap64 ((kn : Int) + (f.v.size : Int))) = b + ((Herb.putL f.k f.va f.se f.ki).length + f.v.size : Nat) := by
      rw [← hkn.out]
      have hkk := hkn.out
      rw [IntWalk.wrap64_in ((kn : Int) + (f.v.size : Int)) (by omega), IntWalk.wrap64_in _ (by omega)]
      omega
    have hl1 : (fs ++ [f]).length = n + 1 := by rw [List.length_append, hn.out]; rfl
    have hS7 : KeepBut (fun k => k = q ∨ (Value.slice A n cap).ownBlock = some k) w4 (w6.setCell ⟨q, 2, none⟩ (.int .i64 (wrap64 (b + wrap64 ((kn : Int) + (f.v.size : Int)))))).drew := (KeepBut.setCell (S := fun k => k = q ∨ (Value.slice A n cap).ownBlock = some k) (p := ⟨q, 2, none⟩) hS3 (.inl rfl) _).drew
    have kq8 := (kq6.store 2 (.int .i64 (wrap64 (b + wrap64 ((kn : Int) + (f.v.size : Int)))))).drew
    have row8 := (own_keep row6 (KeepBut.set_at w6 q 2 (.int .i64 (wrap64 (b + wrap64 ((kn : Int) + (f.v.size : Int)))))) (fun k e e2 => hq5 (by subst e2; simp [Value.ownBlock] at e; exact e.symm))).drew
    have hty : ∀ (k : Nat) (cs : Array Value) (t : TypeId) (f : Nat × Nat), w4.heap[k]? = some (.cells cs t f) → t ≠ 56 → t ≠ 27 → ¬ (k = q ∨ (Value.slice A n cap).ownBlock = some k) := fun k cs t f hkk h1 h2 e => by
      rcases e with e | e
      · exact ty_ne hkk kq4 h1 e
      · obtain ⟨_, _, c3, f3, t3⟩ := own_ty row4 e
        exact ty_ne hkk t3 h2 rfl
    obtain ⟨⟨c1, f1, t1⟩, ⟨c2, f2, t2⟩⟩ := hpg4
    have hm := h.out
    refine ⟨g', some ⟨g5, 0, none⟩, cap5, rfl, ⟨?_, ?_, ?_, hm.qb, ?_⟩, ?_, ?_⟩
    · rw [hl1, ← e1]
      simpa using kq8
    · rw [hn.out]
      exact hS4.keep hS7 (hty _ _ _ _ t1 (by decide) (by decide)) (hty _ _ _ _ t2 (by decide) (by decide)) (fun k cs fr hk => hty _ _ _ _ hk (by decide) (by decide))
    · rw [hl1, ftC_append]
      exact row8
    · intro x hx
      rw [hn.out] at hx
      rw [hl1]
      unfold insM at hx
      rcases List.mem_append.1 hx with hx | hx
      · obtain ⟨i, h1, h2⟩ := hm.ix x ((List.takeWhile_prefix _).subset hx)
        exact ⟨i, h1, by have := hn.out; omega⟩
      · rcases List.mem_cons.1 hx with rfl | hx
        · exact ⟨n, rfl, by omega⟩
        · obtain ⟨i, h1, h2⟩ := hm.ix x ((List.dropWhile_suffix _).subset hx)
          exact ⟨i, h1, by have := hn.out; omega⟩
    · refine k24.trans (hS7.weak (fun k _ e => ?_))
      rw [hn.out]
      exact e.imp (fun h => h) (fun h => .inr (.inr h))
    · rintro k (rfl | rfl | rfl | e)
      · exact .inl (.inl rfl)
      · exact .inl (.inr (.inl rfl))
      · rcases hg4 with rfl | h1
        · exact .inl (.inr (.inr (.inl rfl)))
        · exact .inr (by omega)
      · simp [Value.ownBlock] at e
        subst e
        rcases hg5w with h1 | h1
        · exact .inl (.inr (.inr (.inr (by rw [hn.out]; exact h1))))
        · exact .inr (by have := k24.size; omega)
end
end Go.Proofs.YtdifdbkbpeanhaaDoor
