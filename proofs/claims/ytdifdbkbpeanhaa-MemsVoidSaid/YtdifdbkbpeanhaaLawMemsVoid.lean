/- A mem that is not there, or that no call made, takes nothing, tells nothing, and is not frozen: for every input, no condition. -/
import Derived.Test.YtdifdbkbpeanhaaMemVoid
import Derived.Test.YtdifdbkbpeanhaaMLaid
import Derived.Deep.RegionHeld3
import Derived.Deep.QuietTactic
import Derived.BigQuiet
import Derived.Stop.RegionWithIn
set_option linter.unusedSimpArgs false
set_option linter.unusedVariables false
namespace Go.Proofs.Ytdifdbkbpeanhaa.lawMemsVoid
open Go Go.RowKit Herb Go.ChangeShapes Go.WideShapes Go.ChangeAt

set_option maxRecDepth 100000 in
set_option maxHeartbeats 3200000 in
theorem walk (w : World) (y0 : LaM) (hva : y0.fit) :
    Calls Try.prog 4 #[.agg y0.cells.toArray] w fun e w' => e = .returned (.bool true) ∧ Below w.heap.size w w' := by
  obtain ⟨⟨k, va, se, li, ki, v⟩, ht, fz⟩ := y0
  obtain ⟨FC, hFC⟩ : ∃ FC : Array Value, FC = #[.string k, .int .u32 (va : Int), .int .u64 (se : Int), .int .u64 (li : Int), .int .u8 (ki : Int), .string v] := ⟨_, rfl⟩
  show Calls Try.prog 4 #[.agg #[.string k, .int .u32 (va : Int), .int .u64 (se : Int), .int .u64 (li : Int), .int .u8 (ki : Int), .string v, .int .i64 ht, .bool fz]] w _
  obtain ⟨S, hS⟩ : ∃ S, w.heap.size = S := ⟨_, rfl⟩
  obtain ⟨W0, hW0⟩ : ∃ W0, (((w.alloc (.cells #[.string k, .int .u32 (va : Int), .int .u64 (se : Int), .int .u64 (li : Int), .int .u8 (ki : Int), .string v, .int .i64 ht, .bool fz] 33)).alloc (.cells #[.bool false] 4)).alloc (.cells #[.pointer none, .slice none 0 0, .int .i64 0, .bool false] 45)).alloc (.cells #[.pointer none, .pointer (some ⟨S + 1 + 1, 0, none⟩)] 25) = W0 := ⟨_, rfl⟩
  refine (callsIn_wide (n := 9)).1 ?_
  refine callsIn_of_wp_marks Try.func4 rfl trivial ?_ rfl
  simp only [Try.ntmps4, List.size_toArray, List.length_cons, List.length_nil, Nat.reduceAdd, Nat.reduceSub, Array.replicate_succ, Array.replicate_zero, List.push_toArray, List.append_toArray, List.nil_append, List.cons_append]
  gi_wp2_with fail
  have hb0 : Below S w W0 := by
    rw [← hW0]
    exact ((((Below.refl S w).alloc (by omega) _).alloc (by simp; omega) _).alloc (by simp; omega) _).alloc (by simp; omega) _
  have hsz : W0.heap.size = S + 4 := by rw [← hW0]; simp; omega
  have kx : Blk W0 S 33 #[.string k, .int .u32 (va : Int), .int .u64 (se : Int), .int .u64 (li : Int), .int .u8 (ki : Int), .string v, .int .i64 ht, .bool fz] := by
    have := (((Blk.new w 33 #[.string k, .int .u32 (va : Int), .int .u64 (se : Int), .int .u64 (li : Int), .int .u8 (ki : Int), .string v, .int .i64 ht, .bool fz]).alloc (.cells #[.bool false] 4)).alloc (.cells #[.pointer none, .slice none 0 0, .int .i64 0, .bool false] 45)).alloc (.cells #[.pointer none, .pointer (some ⟨S + 1 + 1, 0, none⟩)] 25)
    rwa [hW0, hS] at this
  have kb : Boxed W0 (S + 1) 4 (.bool false) := by
    have := ((Boxed.new (w.alloc (.cells #[.string k, .int .u32 (va : Int), .int .u64 (se : Int), .int .u64 (li : Int), .int .u8 (ki : Int), .string v, .int .i64 ht, .bool fz] 33)) 4 (.bool false)).alloc (.cells #[.pointer none, .slice none 0 0, .int .i64 0, .bool false] 45)).alloc (.cells #[.pointer none, .pointer (some ⟨S + 1 + 1, 0, none⟩)] 25)
    rwa [hW0, World.size_alloc, hS] at this
  have kl : Blk W0 (S + 1 + 1) 45 #[.pointer none, .slice none 0 0, .int .i64 0, .bool false] := by
    have := (Blk.new ((w.alloc (.cells #[.string k, .int .u32 (va : Int), .int .u64 (se : Int), .int .u64 (li : Int), .int .u8 (ki : Int), .string v, .int .i64 ht, .bool fz] 33)).alloc (.cells #[.bool false] 4)) 45 #[.pointer none, .slice none 0 0, .int .i64 0, .bool false]).alloc (.cells #[.pointer none, .pointer (some ⟨S + 1 + 1, 0, none⟩)] 25)
    rwa [hW0, World.size_alloc, World.size_alloc, hS] at this
  have kp : Blk W0 (S + 1 + 1 + 1) 25 #[.pointer none, .pointer (some ⟨S + 1 + 1, 0, none⟩)] := by
    have := Blk.new (((w.alloc (.cells #[.string k, .int .u32 (va : Int), .int .u64 (se : Int), .int .u64 (li : Int), .int .u8 (ki : Int), .string v, .int .i64 ht, .bool fz] 33)).alloc (.cells #[.bool false] 4)).alloc (.cells #[.pointer none, .slice none 0 0, .int .i64 0, .bool false] 45)) 25 #[.pointer none, .pointer (some ⟨S + 1 + 1, 0, none⟩)]
    rwa [hW0, World.size_alloc, World.size_alloc, World.size_alloc, hS] at this
  try rw [hW0]
  clear hW0
  have hnil := fun W => func_nilF W _ rfl 29
  have hu := Try.underlying31
  have hi := fact_size
  have hfol : Try.prog.follows .mixedOrders = true := by kernel_rfl
  have hld : ∀ (X : World), Below W0.heap.size W0 X → X.rangeAt S 0 [.string k, .int .u32 (va : Int), .int .u64 (se : Int), .int .u64 (li : Int), .int .u8 (ki : Int), .string v] := fun V hV => by
    have kxV := kx.below hV kx.lt
    intro j v hv
    rw [Nat.zero_add, kxV.cell j]
    match j, hv with
    | 0, hv | 1, hv | 2, hv | 3, hv | 4, hv | 5, hv => simpa using hv
    | j + 6, hv => simp at hv
  replace hld := Lib.hid hld
  refine wpIn_loop (fun a' w' => ∃ (u6 u8 u9 u10 u11 u12 u13 u14 u15 u16 u17 u18 u19 u20 u21 u22 u23 u24 u25 u26 u27 u28 u29 u30 u31 u32 u33 u34 u35 u36 u37 u38 u39 u40 u41 u42 u43 u44 u45 u46 u47 u48 u49 u50 u51 u52 u53 u54 u55 u56 u57 u58 u59 u60 u61 u62 u63 u64 u65 u66 u67 u68 u69 u70 u71 u72 u73 : Value) (k' : Nat) (ds : List Nat), a' = { tmps := #[.agg #[.string k, .int .u32 (va : Int), .int .u64 (se : Int), .int .u64 (li : Int), .int .u8 (ki : Int), .string v, .int .i64 ht, .bool fz], .pointer (some ⟨S, 0, none⟩), .pointer (some ⟨S + 1, 0, none⟩), .pointer (some ⟨S + 1 + 1, 0, none⟩), .slice (some ⟨S + 1 + 1 + 1, 0, none⟩) 2 2, .int .i64 (k' : Int), u6, .slice (some ⟨S + 1 + 1 + 1, 0, none⟩) 2 2, u8, u9, u10, u11, u12, u13, u14, u15, u16, u17, u18, u19, u20, u21, u22, u23, u24, u25, u26, u27, u28, u29, u30, u31, u32, u33, u34, u35, u36, u37, u38, u39, u40, u41, u42, u43, u44, u45, u46, u47, u48, u49, u50, u51, u52, u53, u54, u55, u56, u57, u58, u59, u60, u61, u62, u63, u64, u65, u66, u67, u68, u69, u70, u71, u72, u73, undef], defers := ds.map markV } ∧ k' ≤ 2 ∧ ds.Nodup ∧ MarksV W0.heap.size ds w' ∧ Below W0.heap.size W0 w') (fun a' _ => 2 - (intOf (a'.tmps.getD 5 undef)).toNat) ?_ ?_
  · exact ⟨_, _, _, _, _, _, _, _, _, _, _, _, _, _, _, _, _, _, _, _, _, _, _, _, _, _, _, _, _, _, _, _, _, _, _, _, _, _, _, _, _, _, _, _, _, _, _, _, _, _, _, _, _, _, _, _, _, _, _, _, _, _, _, _, _, _, _, 0, [], rfl, by omega, List.nodup_nil, (fun D hD => by cases hD), Below.refl _ _⟩
  · rintro a' wr ⟨u6, u8, u9, u10, u11, u12, u13, u14, u15, u16, u17, u18, u19, u20, u21, u22, u23, u24, u25, u26, u27, u28, u29, u30, u31, u32, u33, u34, u35, u36, u37, u38, u39, u40, u41, u42, u43, u44, u45, u46, u47, u48, u49, u50, u51, u52, u53, u54, u55, u56, u57, u58, u59, u60, u61, u62, u63, u64, u65, u66, u67, u68, u69, u70, u71, u72, u73, k', ds, rfl, hk, hnd, hds, hbel⟩
    replace hds := Lib.hid hds
    replace hnd := Lib.hid hnd
    by_cases hlt : k' < 2
    · obtain ⟨q, hq, hv⟩ : ∃ q, W0.cell? ⟨S + 1 + 1 + 1, k', none⟩ = some (.pointer q) ∧ VoidM q W0 := by
        rcases (show k' = 0 ∨ k' = 1 by omega) with rfl | rfl
        · exact ⟨none, kp.cell 0, .inl rfl⟩
        · exact ⟨some ⟨S + 1 + 1, 0, none⟩, kp.cell 1, .inr ⟨S + 1 + 1, rfl, kl⟩⟩
      have hqX : ∀ X, Below W0.heap.size W0 X → X.cell? ⟨S + 1 + 1 + 1, k', none⟩ = some (.pointer q) := fun X hX => (hX.cell (p := ⟨S + 1 + 1 + 1, k', none⟩) (show S + 1 + 1 + 1 < W0.heap.size by omega)).trans hq
      have hxX : ∀ X, Below W0.heap.size W0 X → X.cell? ⟨S, 6, none⟩ = some (.int .i64 ht) ∧ X.cell? ⟨S, 0, none⟩ = some (.string k) ∧ X.cell? ⟨S, 1, none⟩ = some (.int .u32 (va : Int)) := fun X hX => by
        have kxV := kx.below hX kx.lt
        exact ⟨kxV.cell 6, kxV.cell 0, kxV.cell 1⟩
      have hqr := hqX wr hbel
      replace hqX := Lib.hid hqX
      replace hxX := Lib.hid hxX
      have k2i : (k' : Int) < 2 ∧ 0 ≤ (k' : Int) := by omega
      gi_wp2_with fail
      refine ⟨trivial, (callsIn_wide.2 (mfreeze_void wr q (hv.below hbel))).mono ?_⟩
      rintro _ _ ⟨⟨z, rfl⟩, rfl⟩
      clear hqr
      gi_wp2_with fail
      have hS0 : Below W0.heap.size W0 wr.drew := hbel.drew
      refine wpIn_mono (Q := (fun e a2 w2 => match e with | .normal => ∃ (v8 v9 v10 v11 v12 v13 v14 v15 v16 v17 v18 v19 v20 v21 v22 v23 v24 v25 v26 v27 v28 v29 v30 v31 v32 v33 v34 v35 v36 v37 v38 v39 v40 v41 v42 v43 v44 v45 v46 v47 v48 v49 v50 v51 v52 v53 v54 v55 v56 v57 : Value), a2 = { tmps := #[.agg #[.string k, .int .u32 (va : Int), .int .u64 (se : Int), .int .u64 (li : Int), .int .u8 (ki : Int), .string v, .int .i64 ht, .bool fz], .pointer (some ⟨S, 0, none⟩), .pointer (some ⟨S + 1, 0, none⟩), .pointer (some ⟨S + 1 + 1, 0, none⟩), .slice (some ⟨S + 1 + 1 + 1, 0, none⟩) 2 2, .int .i64 (k' : Int), u6, .slice (some ⟨S + 1 + 1 + 1, 0, none⟩) 2 2, v8, v9, v10, v11, v12, v13, v14, v15, v16, v17, v18, v19, v20, v21, v22, v23, v24, v25, v26, v27, v28, v29, v30, v31, v32, v33, v34, v35, v36, v37, v38, v39, v40, v41, v42, v43, v44, v45, v46, v47, v48, v49, v50, v51, v52, v53, v54, v55, v56, v57, .bool false, u59, u60, u61, u62, u63, u64, u65, u66, u67, u68, u69, u70, u71, u72, u73, undef], defers := ds.map markV } ∧ Below wr.heap.size wr w2 | _ => False)) ?_ ?_
      · refine wpIn_wide.2 ?_
        refine wp_region_held (S := fun X => Below W0.heap.size W0 X) hfol ?_
        refine wpAnyH_take (i := 0) (v := .slice (some ⟨S + 1 + 1 + 1, 0, none⟩) 2 2) rfl (by kernel_rfl) (by kernel_rfl) (by kernel_rfl) (fun _ _ _ h => h) (.inl ⟨by kernel_rfl, fun W hW => by go_simp⟩) hS0 ?_
        try dsimp only [Act.put]
        try simp only [List.setIfInBounds_toArray, List.set_cons_zero, List.set_cons_succ]
        refine wpAnyH_take (i := 1) (v := .int .i64 (k' : Int)) rfl (by kernel_rfl) (by kernel_rfl) (by kernel_rfl) (fun _ _ _ h => h) (.inl ⟨by kernel_rfl, fun W hW => by go_simp⟩) hS0 ?_
        try dsimp only [Act.put]
        try simp only [List.setIfInBounds_toArray, List.set_cons_zero, List.set_cons_succ]
        refine wpAnyH_take (i := 2) (v := .pointer (some ⟨S + 1 + 1 + 1, k', none⟩)) rfl (by kernel_rfl) (by kernel_rfl) (by kernel_rfl) (fun _ _ _ h => h) (.inl ⟨by kernel_rfl, fun W hW => by go_simp⟩) hS0 ?_
        try dsimp only [Act.put]
        try simp only [List.setIfInBounds_toArray, List.set_cons_zero, List.set_cons_succ]
        refine wpAnyH_take (i := 3) (v := .pointer q) rfl (by kernel_rfl) (by kernel_rfl) (by kernel_rfl) (fun _ _ _ h => h) (.inl ⟨by kernel_rfl, fun W hW => by have hx1 := hqX.out W hW; go_simp⟩) hS0 ?_
        try dsimp only [Act.put]
        try simp only [List.setIfInBounds_toArray, List.set_cons_zero, List.set_cons_succ]
        refine wpAnyH_take (i := 4) (v := .pointer (some ⟨S, 0, none⟩)) rfl (by kernel_rfl) (by kernel_rfl) (by kernel_rfl) (fun _ _ _ h => h) (.inl ⟨by kernel_rfl, fun W hW => by go_simp⟩) hS0 ?_
        try dsimp only [Act.put]
        try simp only [List.setIfInBounds_toArray, List.set_cons_zero, List.set_cons_succ]
        refine wpAnyH_take (i := 5) (v := .agg #[.string k, .int .u32 (va : Int), .int .u64 (se : Int), .int .u64 (li : Int), .int .u8 (ki : Int), .string v]) rfl (by kernel_rfl) (by kernel_rfl) (by kernel_rfl) (fun _ _ _ h => h) (yieldsIf_load_mid (by kernel_rfl) 31 (.tmp 21) rfl S 0 rfl [.string k, .int .u32 (va : Int), .int .u64 (se : Int), .int .u64 (li : Int), .int .u8 (ki : Int), .string v] _ hld.out hu rfl hi) hS0 ?_
        try dsimp only [Act.put]
        try simp only [List.setIfInBounds_toArray, List.set_cons_zero, List.set_cons_succ]
        refine wpAnyH_take (i := 6) (v := .pointer (some ⟨S, 6, none⟩)) rfl (by kernel_rfl) (by kernel_rfl) (by kernel_rfl) (fun _ _ _ h => h) (.inl ⟨by kernel_rfl, fun W hW => by go_simp⟩) hS0 ?_
        try dsimp only [Act.put]
        try simp only [List.setIfInBounds_toArray, List.set_cons_zero, List.set_cons_succ]
        refine wpAnyH_take (i := 7) (v := .int .i64 ht) rfl (by kernel_rfl) (by kernel_rfl) (by kernel_rfl) (fun _ _ _ h => h) (.inl ⟨by kernel_rfl, fun W hW => by have hx1 := (hxX.out W hW).1; have hx2 := (hxX.out W hW).2.1; have hx3 := (hxX.out W hW).2.2; go_simp⟩) hS0 ?_
        try dsimp only [Act.put]
        try simp only [List.setIfInBounds_toArray, List.set_cons_zero, List.set_cons_succ]
        refine wpAnyH_ready (rs := [8]) (by kernel_rfl) (by simp) (AllReadyH.cons rfl (fun K' hK => ?_) AllReadyH.nil)
        go_simp
        go_at_call 10
        refine (mput_void _ q (hv.below hS0) ⟨k, va, se, li, ki, v⟩ ht).mono ?_
        rintro _ w1 ⟨rfl, b1⟩
        have hS1 := hS0.trans (b1.mono hS0.size)
        refine hK.out _ _ hS1 (fun _ => ?_)
        clear hK K'
        try dsimp only [Act.put]
        try simp only [List.setIfInBounds_toArray, List.set_cons_zero, List.set_cons_succ]
        refine wpAnyH_take (i := 9) (v := .bool false) rfl (by kernel_rfl) (by kernel_rfl) (by kernel_rfl) (fun _ _ _ h => h) (.inl ⟨by kernel_rfl, fun W hW => by go_simp⟩) hS1 ?_
        try dsimp only [Act.put]
        try simp only [List.setIfInBounds_toArray, List.set_cons_zero, List.set_cons_succ]
        refine wpAnyH_take (i := 10) (v := .bool false) rfl (by kernel_rfl) (by kernel_rfl) (by kernel_rfl) (fun _ _ _ h => h) (.inl ⟨by kernel_rfl, fun W hW => by go_simp⟩) hS1 ?_
        try dsimp only [Act.put]
        try simp only [List.setIfInBounds_toArray, List.set_cons_zero, List.set_cons_succ]
        refine wpAnyH_take (i := 11) (v := .slice (some ⟨S + 1 + 1 + 1, 0, none⟩) 2 2) rfl (by kernel_rfl) (by kernel_rfl) (by kernel_rfl) (fun _ _ _ h => h) (.inl ⟨by kernel_rfl, fun W hW => by go_simp⟩) hS1 ?_
        try dsimp only [Act.put]
        try simp only [List.setIfInBounds_toArray, List.set_cons_zero, List.set_cons_succ]
        refine wpAnyH_take (i := 12) (v := .int .i64 (k' : Int)) rfl (by kernel_rfl) (by kernel_rfl) (by kernel_rfl) (fun _ _ _ h => h) (.inl ⟨by kernel_rfl, fun W hW => by go_simp⟩) hS1 ?_
        try dsimp only [Act.put]
        try simp only [List.setIfInBounds_toArray, List.set_cons_zero, List.set_cons_succ]
        refine wpAnyH_take (i := 13) (v := .pointer (some ⟨S + 1 + 1 + 1, k', none⟩)) rfl (by kernel_rfl) (by kernel_rfl) (by kernel_rfl) (fun _ _ _ h => h) (.inl ⟨by kernel_rfl, fun W hW => by go_simp⟩) hS1 ?_
        try dsimp only [Act.put]
        try simp only [List.setIfInBounds_toArray, List.set_cons_zero, List.set_cons_succ]
        refine wpAnyH_take (i := 14) (v := .pointer q) rfl (by kernel_rfl) (by kernel_rfl) (by kernel_rfl) (fun _ _ _ h => h) (.inl ⟨by kernel_rfl, fun W hW => by have hx1 := hqX.out W hW; go_simp⟩) hS1 ?_
        try dsimp only [Act.put]
        try simp only [List.setIfInBounds_toArray, List.set_cons_zero, List.set_cons_succ]
        refine wpAnyH_ready (rs := [15]) (by kernel_rfl) (by simp) (AllReadyH.cons rfl (fun K' hK => ?_) AllReadyH.nil)
        go_simp
        go_at_call 15
        refine (mlen_void _ q (hv.below hS1)).mono ?_
        rintro _ _ ⟨rfl, rfl⟩
        refine hK.out _ _ hS1 (fun _ => ?_)
        clear hK K'
        try dsimp only [Act.put]
        try simp only [List.setIfInBounds_toArray, List.set_cons_zero, List.set_cons_succ]
        refine wpAnyH_take (i := 16) (v := .bool false) rfl (by kernel_rfl) (by kernel_rfl) (by kernel_rfl) (fun _ _ _ h => h) (.inl ⟨by kernel_rfl, fun W hW => by go_simp⟩) hS1 ?_
        try dsimp only [Act.put]
        try simp only [List.setIfInBounds_toArray, List.set_cons_zero, List.set_cons_succ]
        refine wpAnyH_take (i := 17) (v := .bool false) rfl (by kernel_rfl) (by kernel_rfl) (by kernel_rfl) (fun _ _ _ h => h) (.inl ⟨by kernel_rfl, fun W hW => by go_simp⟩) hS1 ?_
        try dsimp only [Act.put]
        try simp only [List.setIfInBounds_toArray, List.set_cons_zero, List.set_cons_succ]
        refine wpAnyH_take (i := 18) (v := .bool false) rfl (by kernel_rfl) (by kernel_rfl) (by kernel_rfl) (fun _ _ _ h => h) (.inl ⟨by kernel_rfl, fun W hW => by go_simp⟩) hS1 ?_
        try dsimp only [Act.put]
        try simp only [List.setIfInBounds_toArray, List.set_cons_zero, List.set_cons_succ]
        refine wpAnyH_take (i := 19) (v := .slice (some ⟨S + 1 + 1 + 1, 0, none⟩) 2 2) rfl (by kernel_rfl) (by kernel_rfl) (by kernel_rfl) (fun _ _ _ h => h) (.inl ⟨by kernel_rfl, fun W hW => by go_simp⟩) hS1 ?_
        try dsimp only [Act.put]
        try simp only [List.setIfInBounds_toArray, List.set_cons_zero, List.set_cons_succ]
        refine wpAnyH_take (i := 20) (v := .int .i64 (k' : Int)) rfl (by kernel_rfl) (by kernel_rfl) (by kernel_rfl) (fun _ _ _ h => h) (.inl ⟨by kernel_rfl, fun W hW => by go_simp⟩) hS1 ?_
        try dsimp only [Act.put]
        try simp only [List.setIfInBounds_toArray, List.set_cons_zero, List.set_cons_succ]
        refine wpAnyH_take (i := 21) (v := .pointer (some ⟨S + 1 + 1 + 1, k', none⟩)) rfl (by kernel_rfl) (by kernel_rfl) (by kernel_rfl) (fun _ _ _ h => h) (.inl ⟨by kernel_rfl, fun W hW => by go_simp⟩) hS1 ?_
        try dsimp only [Act.put]
        try simp only [List.setIfInBounds_toArray, List.set_cons_zero, List.set_cons_succ]
        refine wpAnyH_take (i := 22) (v := .pointer q) rfl (by kernel_rfl) (by kernel_rfl) (by kernel_rfl) (fun _ _ _ h => h) (.inl ⟨by kernel_rfl, fun W hW => by have hx1 := hqX.out W hW; go_simp⟩) hS1 ?_
        try dsimp only [Act.put]
        try simp only [List.setIfInBounds_toArray, List.set_cons_zero, List.set_cons_succ]
        refine wpAnyH_ready (rs := [23]) (by kernel_rfl) (by simp) (AllReadyH.cons rfl (fun K' hK => ?_) AllReadyH.nil)
        go_simp
        go_at_call 16
        refine (mbytes_void _ q (hv.below hS1)).mono ?_
        rintro _ _ ⟨rfl, rfl⟩
        refine hK.out _ _ hS1 (fun _ => ?_)
        clear hK K'
        try dsimp only [Act.put]
        try simp only [List.setIfInBounds_toArray, List.set_cons_zero, List.set_cons_succ]
        refine wpAnyH_take (i := 24) (v := .bool false) rfl (by kernel_rfl) (by kernel_rfl) (by kernel_rfl) (fun _ _ _ h => h) (.inl ⟨by kernel_rfl, fun W hW => by go_simp⟩) hS1 ?_
        try dsimp only [Act.put]
        try simp only [List.setIfInBounds_toArray, List.set_cons_zero, List.set_cons_succ]
        refine wpAnyH_take (i := 25) (v := .bool false) rfl (by kernel_rfl) (by kernel_rfl) (by kernel_rfl) (fun _ _ _ h => h) (.inl ⟨by kernel_rfl, fun W hW => by go_simp⟩) hS1 ?_
        try dsimp only [Act.put]
        try simp only [List.setIfInBounds_toArray, List.set_cons_zero, List.set_cons_succ]
        refine wpAnyH_take (i := 26) (v := .bool false) rfl (by kernel_rfl) (by kernel_rfl) (by kernel_rfl) (fun _ _ _ h => h) (.inl ⟨by kernel_rfl, fun W hW => by go_simp⟩) hS1 ?_
        try dsimp only [Act.put]
        try simp only [List.setIfInBounds_toArray, List.set_cons_zero, List.set_cons_succ]
        refine wpAnyH_take (i := 27) (v := .slice (some ⟨S + 1 + 1 + 1, 0, none⟩) 2 2) rfl (by kernel_rfl) (by kernel_rfl) (by kernel_rfl) (fun _ _ _ h => h) (.inl ⟨by kernel_rfl, fun W hW => by go_simp⟩) hS1 ?_
        try dsimp only [Act.put]
        try simp only [List.setIfInBounds_toArray, List.set_cons_zero, List.set_cons_succ]
        refine wpAnyH_take (i := 28) (v := .int .i64 (k' : Int)) rfl (by kernel_rfl) (by kernel_rfl) (by kernel_rfl) (fun _ _ _ h => h) (.inl ⟨by kernel_rfl, fun W hW => by go_simp⟩) hS1 ?_
        try dsimp only [Act.put]
        try simp only [List.setIfInBounds_toArray, List.set_cons_zero, List.set_cons_succ]
        refine wpAnyH_take (i := 29) (v := .pointer (some ⟨S + 1 + 1 + 1, k', none⟩)) rfl (by kernel_rfl) (by kernel_rfl) (by kernel_rfl) (fun _ _ _ h => h) (.inl ⟨by kernel_rfl, fun W hW => by go_simp⟩) hS1 ?_
        try dsimp only [Act.put]
        try simp only [List.setIfInBounds_toArray, List.set_cons_zero, List.set_cons_succ]
        refine wpAnyH_take (i := 30) (v := .pointer q) rfl (by kernel_rfl) (by kernel_rfl) (by kernel_rfl) (fun _ _ _ h => h) (.inl ⟨by kernel_rfl, fun W hW => by have hx1 := hqX.out W hW; go_simp⟩) hS1 ?_
        try dsimp only [Act.put]
        try simp only [List.setIfInBounds_toArray, List.set_cons_zero, List.set_cons_succ]
        refine wpAnyH_ready (rs := [31]) (by kernel_rfl) (by simp) (AllReadyH.cons rfl (fun K' hK => ?_) AllReadyH.nil)
        go_simp
        go_at_call 17
        refine (mfrozen_void _ q (hv.below hS1)).mono ?_
        rintro _ _ ⟨rfl, rfl⟩
        refine hK.out _ _ hS1 (fun _ => ?_)
        clear hK K'
        try dsimp only [Act.put]
        try simp only [List.setIfInBounds_toArray, List.set_cons_zero, List.set_cons_succ]
        refine wpAnyH_take (i := 32) (v := .bool false) rfl (by kernel_rfl) (by kernel_rfl) (by kernel_rfl) (fun _ _ _ h => h) (.inl ⟨by kernel_rfl, fun W hW => by go_simp⟩) hS1 ?_
        try dsimp only [Act.put]
        try simp only [List.setIfInBounds_toArray, List.set_cons_zero, List.set_cons_succ]
        refine wpAnyH_take (i := 33) (v := .bool false) rfl (by kernel_rfl) (by kernel_rfl) (by kernel_rfl) (fun _ _ _ h => h) (.inl ⟨by kernel_rfl, fun W hW => by go_simp⟩) hS1 ?_
        try dsimp only [Act.put]
        try simp only [List.setIfInBounds_toArray, List.set_cons_zero, List.set_cons_succ]
        refine wpAnyH_take (i := 34) (v := .slice (some ⟨S + 1 + 1 + 1, 0, none⟩) 2 2) rfl (by kernel_rfl) (by kernel_rfl) (by kernel_rfl) (fun _ _ _ h => h) (.inl ⟨by kernel_rfl, fun W hW => by go_simp⟩) hS1 ?_
        try dsimp only [Act.put]
        try simp only [List.setIfInBounds_toArray, List.set_cons_zero, List.set_cons_succ]
        refine wpAnyH_take (i := 35) (v := .int .i64 (k' : Int)) rfl (by kernel_rfl) (by kernel_rfl) (by kernel_rfl) (fun _ _ _ h => h) (.inl ⟨by kernel_rfl, fun W hW => by go_simp⟩) hS1 ?_
        try dsimp only [Act.put]
        try simp only [List.setIfInBounds_toArray, List.set_cons_zero, List.set_cons_succ]
        refine wpAnyH_take (i := 36) (v := .pointer (some ⟨S + 1 + 1 + 1, k', none⟩)) rfl (by kernel_rfl) (by kernel_rfl) (by kernel_rfl) (fun _ _ _ h => h) (.inl ⟨by kernel_rfl, fun W hW => by go_simp⟩) hS1 ?_
        try dsimp only [Act.put]
        try simp only [List.setIfInBounds_toArray, List.set_cons_zero, List.set_cons_succ]
        refine wpAnyH_take (i := 37) (v := .pointer q) rfl (by kernel_rfl) (by kernel_rfl) (by kernel_rfl) (fun _ _ _ h => h) (.inl ⟨by kernel_rfl, fun W hW => by have hx1 := hqX.out W hW; go_simp⟩) hS1 ?_
        try dsimp only [Act.put]
        try simp only [List.setIfInBounds_toArray, List.set_cons_zero, List.set_cons_succ]
        refine wpAnyH_ready (rs := [38]) (by kernel_rfl) (by simp) (AllReadyH.cons rfl (fun K' hK => ?_) AllReadyH.nil)
        go_simp
        go_at_call 11
        refine (mfacts_void _ q (hv.below hS1)).mono ?_
        rintro _ _ ⟨rfl, rfl⟩
        refine hK.out _ _ hS1 (fun _ => ?_)
        clear hK K'
        try dsimp only [Act.put]
        try simp only [List.setIfInBounds_toArray, List.set_cons_zero, List.set_cons_succ]
        refine wpAnyH_take (i := 39) (v := .int .i64 0) rfl (by kernel_rfl) (by kernel_rfl) (by kernel_rfl) (fun _ _ _ h => h) (.inl ⟨by kernel_rfl, fun W hW => by go_simp⟩) hS1 ?_
        try dsimp only [Act.put]
        try simp only [List.setIfInBounds_toArray, List.set_cons_zero, List.set_cons_succ]
        refine wpAnyH_take (i := 40) (v := .bool false) rfl (by kernel_rfl) (by kernel_rfl) (by kernel_rfl) (fun _ _ _ h => h) (.inl ⟨by kernel_rfl, fun W hW => by go_simp⟩) hS1 ?_
        try dsimp only [Act.put]
        try simp only [List.setIfInBounds_toArray, List.set_cons_zero, List.set_cons_succ]
        refine wpAnyH_take (i := 41) (v := .bool false) rfl (by kernel_rfl) (by kernel_rfl) (by kernel_rfl) (fun _ _ _ h => h) (.inl ⟨by kernel_rfl, fun W hW => by go_simp⟩) hS1 ?_
        try dsimp only [Act.put]
        try simp only [List.setIfInBounds_toArray, List.set_cons_zero, List.set_cons_succ]
        refine wpAnyH_done (by kernel_rfl) ?_ _
        exact ⟨_, _, _, _, _, _, _, _, _, _, _, _, _, _, _, _, _, _, _, _, _, _, _, _, _, _, _, _, _, _, _, _, _, _, _, _, _, _, _, _, _, _, _, _, _, _, _, _, _, _, rfl, (Below.refl _ wr).drew.trans b1⟩
      intro e a2 w2 h
      rcases e with _ | _ | _ | _ | _ <;> first | exact h.elim | skip
      obtain ⟨v8, v9, v10, v11, v12, v13, v14, v15, v16, v17, v18, v19, v20, v21, v22, v23, v24, v25, v26, v27, v28, v29, v30, v31, v32, v33, v34, v35, v36, v37, v38, v39, v40, v41, v42, v43, v44, v45, v46, v47, v48, v49, v50, v51, v52, v53, v54, v55, v56, v57, rfl, hb12⟩ := h
      have hb2 : Below W0.heap.size W0 w2 := hbel.trans (hb12.mono hbel.size)
      have hd2 := hds.out.below hb12
      clear hS0 hds hbel hb12
      gi_wp2_with fail
      have hS0 : Below W0.heap.size W0 w2.drew := hb2.drew
      obtain ⟨C, hC⟩ : ∃ C, w2.drew.heap.size = C := ⟨_, rfl⟩
      have pf := mfrom_any w2.drew q k va
      rw [hC] at pf
      refine wpIn_mono (Q := (fun e a2 w3 => match e with | .normal => ∃ (x59 x60 x61 x62 x63 x64 x65 x66 x67 x68 x69 : Value), a2 = { tmps := #[.agg #[.string k, .int .u32 (va : Int), .int .u64 (se : Int), .int .u64 (li : Int), .int .u8 (ki : Int), .string v, .int .i64 ht, .bool fz], .pointer (some ⟨S, 0, none⟩), .pointer (some ⟨S + 1, 0, none⟩), .pointer (some ⟨S + 1 + 1, 0, none⟩), .slice (some ⟨S + 1 + 1 + 1, 0, none⟩) 2 2, .int .i64 (k' : Int), .func (.func 29) #[] #[.pointer (some ⟨C, 0, none⟩), .pointer (some ⟨C + 1, 0, none⟩), .pointer (some ⟨C + 2, 0, none⟩)], .slice (some ⟨S + 1 + 1 + 1, 0, none⟩) 2 2, v8, v9, v10, v11, v12, v13, v14, v15, v16, v17, v18, v19, v20, v21, v22, v23, v24, v25, v26, v27, v28, v29, v30, v31, v32, v33, v34, v35, v36, v37, v38, v39, v40, v41, v42, v43, v44, v45, v46, v47, v48, v49, v50, v51, v52, v53, v54, v55, v56, v57, .bool false, x59, x60, x61, x62, x63, x64, x65, x66, x67, x68, x69, u70, u71, u72, u73, undef], defers := ds.map markV } ∧ Boxed w3 C 25 (.pointer q) ∧ Below w2.heap.size w2 w3 | _ => False)) ?_ ?_
      · refine wpIn_wide.2 ?_
        refine wp_region_held (S := fun X => Below W0.heap.size W0 X) hfol ?_
        refine wpAnyH_take (i := 0) (v := .slice (some ⟨S + 1 + 1 + 1, 0, none⟩) 2 2) rfl (by kernel_rfl) (by kernel_rfl) (by kernel_rfl) (fun _ _ _ h => h) (.inl ⟨by kernel_rfl, fun W hW => by go_simp⟩) hS0 ?_
        try dsimp only [Act.put]
        try simp only [List.setIfInBounds_toArray, List.set_cons_zero, List.set_cons_succ]
        refine wpAnyH_take (i := 1) (v := .int .i64 (k' : Int)) rfl (by kernel_rfl) (by kernel_rfl) (by kernel_rfl) (fun _ _ _ h => h) (.inl ⟨by kernel_rfl, fun W hW => by go_simp⟩) hS0 ?_
        try dsimp only [Act.put]
        try simp only [List.setIfInBounds_toArray, List.set_cons_zero, List.set_cons_succ]
        refine wpAnyH_take (i := 2) (v := .pointer (some ⟨S + 1 + 1 + 1, k', none⟩)) rfl (by kernel_rfl) (by kernel_rfl) (by kernel_rfl) (fun _ _ _ h => h) (.inl ⟨by kernel_rfl, fun W hW => by go_simp⟩) hS0 ?_
        try dsimp only [Act.put]
        try simp only [List.setIfInBounds_toArray, List.set_cons_zero, List.set_cons_succ]
        refine wpAnyH_take (i := 3) (v := .pointer q) rfl (by kernel_rfl) (by kernel_rfl) (by kernel_rfl) (fun _ _ _ h => h) (.inl ⟨by kernel_rfl, fun W hW => by have hx1 := hqX.out W hW; go_simp⟩) hS0 ?_
        try dsimp only [Act.put]
        try simp only [List.setIfInBounds_toArray, List.set_cons_zero, List.set_cons_succ]
        refine wpAnyH_take (i := 4) (v := .pointer (some ⟨S, 0, none⟩)) rfl (by kernel_rfl) (by kernel_rfl) (by kernel_rfl) (fun _ _ _ h => h) (.inl ⟨by kernel_rfl, fun W hW => by go_simp⟩) hS0 ?_
        try dsimp only [Act.put]
        try simp only [List.setIfInBounds_toArray, List.set_cons_zero, List.set_cons_succ]
        refine wpAnyH_take (i := 5) (v := .pointer (some ⟨S, 0, none⟩)) rfl (by kernel_rfl) (by kernel_rfl) (by kernel_rfl) (fun _ _ _ h => h) (.inl ⟨by kernel_rfl, fun W hW => by go_simp⟩) hS0 ?_
        try dsimp only [Act.put]
        try simp only [List.setIfInBounds_toArray, List.set_cons_zero, List.set_cons_succ]
        refine wpAnyH_take (i := 6) (v := .string k) rfl (by kernel_rfl) (by kernel_rfl) (by kernel_rfl) (fun _ _ _ h => h) (.inl ⟨by kernel_rfl, fun W hW => by have hx1 := (hxX.out W hW).1; have hx2 := (hxX.out W hW).2.1; have hx3 := (hxX.out W hW).2.2; go_simp⟩) hS0 ?_
        try dsimp only [Act.put]
        try simp only [List.setIfInBounds_toArray, List.set_cons_zero, List.set_cons_succ]
        refine wpAnyH_take (i := 7) (v := .pointer (some ⟨S, 0, none⟩)) rfl (by kernel_rfl) (by kernel_rfl) (by kernel_rfl) (fun _ _ _ h => h) (.inl ⟨by kernel_rfl, fun W hW => by go_simp⟩) hS0 ?_
        try dsimp only [Act.put]
        try simp only [List.setIfInBounds_toArray, List.set_cons_zero, List.set_cons_succ]
        refine wpAnyH_take (i := 8) (v := .pointer (some ⟨S, 1, none⟩)) rfl (by kernel_rfl) (by kernel_rfl) (by kernel_rfl) (fun _ _ _ h => h) (.inl ⟨by kernel_rfl, fun W hW => by go_simp⟩) hS0 ?_
        try dsimp only [Act.put]
        try simp only [List.setIfInBounds_toArray, List.set_cons_zero, List.set_cons_succ]
        refine wpAnyH_take (i := 9) (v := .int .u32 (va : Int)) rfl (by kernel_rfl) (by kernel_rfl) (by kernel_rfl) (fun _ _ _ h => h) (.inl ⟨by kernel_rfl, fun W hW => by have hx1 := (hxX.out W hW).1; have hx2 := (hxX.out W hW).2.1; have hx3 := (hxX.out W hW).2.2; go_simp⟩) hS0 ?_
        try dsimp only [Act.put]
        try simp only [List.setIfInBounds_toArray, List.set_cons_zero, List.set_cons_succ]
        refine wpAnyH_ready (rs := [10]) (by kernel_rfl) (by simp) (AllReadyH.cons rfl (fun K' hK => ?_) AllReadyH.nil)
        go_simp
        go_at_call 18
        refine pf.mono ?_
        clear pf
        rintro _ w3 ⟨rfl, bL, _, _, b3⟩
        have hS1 := hS0.trans (b3.mono (by rw [← hC]; exact hS0.size))
        refine hK.out _ _ hS1 (fun _ => ?_)
        clear hK K'
        try dsimp only [Act.put]
        try simp only [List.setIfInBounds_toArray, List.set_cons_zero, List.set_cons_succ]
        refine wpAnyH_ready (rs := [11]) (by kernel_rfl) (by simp) (AllReadyH.cons rfl (fun K' hK => ?_) AllReadyH.nil)
        go_simp
        refine hK.out _ _ hS1 (fun _ => ?_)
        clear hK K'
        try dsimp only [Act.put]
        try simp only [List.setIfInBounds_toArray, List.set_cons_zero, List.set_cons_succ]
        refine wpAnyH_done (by kernel_rfl) ?_ _
        exact ⟨_, _, _, _, _, _, _, _, _, _, _, rfl, bL, (Below.refl _ w2).drew.trans (by rw [← hC] at b3; exact b3)⟩
      intro e a2 w3 h
      rcases e with _ | _ | _ | _ | _ <;> first | exact h.elim | skip
      obtain ⟨x59, x60, x61, x62, x63, x64, x65, x66, x67, x68, x69, rfl, bL, hb23⟩ := h
      have hb3 : Below W0.heap.size W0 w3 := hb2.trans (hb23.mono hb2.size)
      have hd3 := hd2.below hb23
      replace hd3 := Lib.hid hd3
      clear hS0 hd2 pf
      gi_wp2_with (first | rw [hnil] | fail)
      refine wpIn_range_noneF (by omega) rfl (gf := 29) (lb := #[.pointer (some ⟨C, 0, none⟩), .pointer (some ⟨C + 1, 0, none⟩), .pointer (some ⟨C + 2, 0, none⟩)]) rfl (enters_of Try.func29 (by kernel_rfl) rfl) (mvoid_seq _ C (C + 1) (C + 2) W0.heap.size q w3 (hv.below hb3) bL) hb3.size ?_ ?_
      · intro l x vs W K he hK
        exact wpIn_skip (hK _ _ (KeepsFrom.refl _ _) (Below.refl _ _) (Below.refl _ _))
      rintro E1 w4 hE1 hb34 hK1
      have hb4 : Below W0.heap.size W0 w4 := hb3.trans (hb34.mono hb3.size)
      have hd4 : MarksV W0.heap.size (E1 :: ds) w4 := fun E hE => by
        rcases List.mem_cons.1 hE with rfl | hE
        · exact ⟨by have := hb3.size; omega, hK1⟩
        · exact hd3.out.below hb34 E hE
      have hnd4 : (E1 :: ds).Nodup := List.nodup_cons.2 ⟨fun h => by have := hd3.out.lt E1 h; omega, hnd.out⟩
      replace hd4 := Lib.hid hd4
      replace hnd4 := Lib.hid hnd4
      clear hK1
      gi_wp2
      refine ⟨⟨_, _, _, _, _, _, _, _, _, _, _, _, _, _, _, _, _, _, _, _, _, _, _, _, _, _, _, _, _, _, _, _, _, _, _, _, _, _, _, _, _, _, _, _, _, _, _, _, _, _, _, _, _, _, _, _, _, _, _, _, _, _, _, _, _, _, _, k' + 1, E1 :: ds, rfl, by omega, hnd4.out, hd4.out, hb4⟩, ?_⟩
      simp [intOf]
      omega
    · have hk2 : k' = 2 := by omega
      subst hk2
      have pl := lives_any wr
      gi_wp2_with fail
      refine ⟨trivial, (callsIn_wide.2 pl).mono ?_⟩
      clear pl
      rintro _ w2 ⟨rfl, hb⟩
      have hb2 : Below W0.heap.size W0 w2 := hbel.trans (hb.mono hbel.size)
      have kb2 : Boxed w2 (S + 1) 4 (.bool false) := (hb2.block _ kb.lt).trans kb
      have hc2 := kb2.cell
      have hf2 := kb2.frozen
      gi_wp2
      have bB := hb2.size
      refine leaves_marksV W0.heap.size ds _ hnd.out ?_ ?_
      · exact fun D hD => ⟨(hds.out D hD).1, (heap_setCell_other w2 ⟨S + 1, 0, none⟩ D (.bool true) (fun e => by have h1 : D = S + 1 := e; have := (hds.out D hD).1; omega)).trans ((hb.block D (hds.out.lt D hD)).trans (hds.out D hD).2)⟩
      · intro W' hbW hk'
        have kb3 : Boxed W' (S + 1) 4 (.bool true) := hk' _ _ _ (kb2.set _)
        refine ⟨_, results_cell_boolV rfl _ _ (S + 1) true rfl Try.underlying4 kb3.cell, rfl, ?_⟩
        rw [hS]
        exact (hb0.trans ((hb2.mono (by omega)).setCell (p := ⟨S + 1, 0, none⟩) (by simp) _)).trans (hbW.mono (by omega))

/-! ### from the walk to the statement (by tail.py) -/
set_option maxRecDepth 100000 in
theorem lifted (os : Os) (started : os.Started) (H : Type) (enc : TypeId × Value → H) :
    ReturnsInHanded {} Try.checked os 4 .any (Rows.memsVoidSpec.pre6 enc Try.prog Try.f4 Rows.memsVoidRow.domain false) (Rows.memsVoidSpec.post enc Try.prog Try.f4 false true false false) := by
  refine lifted_of (C := Try.checked) (tb := 4) (n := 1) (by kernel_rfl) started (by kernel_rfl) Try.func4 (by kernel_rfl) (by kernel_rfl) rfl (by kernel_rfl) Try.underlying4 (by kernel_rfl)
    (fun ds hd => by match ds, hd with | [d1], _ => exact ⟨rfl, rfl, rfl⟩)
    (ChangeSpec.witness6 (enc := enc) (C := Try.checked) false ⟨#[], #[.agg #[.string ByteArray.empty, .int .u32 0, .int .u64 0, .int .u64 0, .int .u8 0, .string ByteArray.empty, .int .i64 0, .bool false]], []⟩ 8 (by kernel_rfl) (by kernel_rfl) (by kernel_rfl) (by kernel_rfl)) ?_
  intro W base args ds before hval hA hsz
  rw [Try.params4] at hA hval hsz
  obtain ⟨v0, vs0, d0, ds0, p0, q0, rfl, rfl, rfl, h0, r0⟩ := trodAll_cons hA
  obtain ⟨rfl, rfl, rfl⟩ := trodAll_nil r0
  obtain ⟨y0, rfl, hr0⟩ := open_mlaid (hval 0 _ _ rfl rfl) h0
  exact walk W y0 hr0

theorem over : Rows.memsVoidRow.holds Try.pinned (OpenSpec.ofChange Rows.memsVoidSpec) :=
  OpenClaim.holds_of_wide 4 Try.f4 rfl rfl rfl rfl rfl rfl rfl ⟨rfl, rfl, rfl, rfl, rfl⟩ rfl rfl rfl rfl rfl (by kernel_rfl) Try.func4 (by kernel_rfl)
    (of_decide_eq_true (by kernel_rfl)) (by unfold Func.isWrapper; first | (rw [if_pos (by decide +kernel)]; kernel_rfl) | (rw [if_neg (by decide +kernel)]; exact ⟨rfl, rfl⟩))
    (fun os started H enc _ => lifted os started H enc)

theorem proved : Rows.MemsVoidSaid := over
end Go.Proofs.Ytdifdbkbpeanhaa.lawMemsVoid
