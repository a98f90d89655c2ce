/- A list that is not there, or that no call made, takes nothing, and tells nothing: for every input, no condition. -/
import Derived.Test.YtkijcphkmikdbaaSkVoid
import Derived.Test.YtkijcphkmikdbaaSkOrd
import Derived.Test.YtkijcphkmikdbaaSkLives
import Derived.Deep.RegionHeld3
import Derived.Deep.QuietTactic
import Derived.BigQuiet
import Derived.Stop.RegionWithIn
set_option linter.unusedSimpArgs false
set_option linter.unusedVariables false
namespace Go.Proofs.Ytkijcphkmikdbaa.lawSkipsVoid
open Go Go.RowKit Herb Go.ChangeShapes Go.WideShapes Go.ChangeAt

set_option maxRecDepth 100000 in
set_option maxHeartbeats 3200000 in
theorem walk (w : World) (y0 : La) (hbK : Bs w y0.A y0.key) (hK0 : y0.c ≤ 140737488355328) (hKc : y0.key.length ≤ y0.c) :
    Calls Try.prog 6 #[.agg y0.cells.toArray] w fun e w' => e = .returned (.bool true) ∧ Below w.heap.size w w' := by
  obtain ⟨yA, K, yc, yn, yh⟩ := y0
  replace hbK : Bs w yA K := hbK
  have hK : K.length ≤ 140737488355328 := by simp only at hK0 hKc; omega
  clear hK0 hKc
  show Calls Try.prog 6 #[.agg #[.slice yA K.length yc, .int .i64 yn, .int .i64 yh]] w _
  obtain ⟨m, hm⟩ : ∃ m, K.length = m := ⟨_, rfl⟩
  rw [hm] at hK ⊢
  replace hm := Lib.hid hm
  obtain ⟨S, hS⟩ : ∃ S, w.heap.size = S := ⟨_, rfl⟩
  obtain ⟨W0, hW0⟩ : ∃ W0, (((w.alloc (.cells #[.slice yA m yc, .int .i64 yn, .int .i64 yh] 28)).alloc (.cells #[.bool false] 4)).alloc (.cells #[.slice none 0 0] 42)).alloc (.cells #[.pointer none, .pointer (some ⟨S + 2, 0, none⟩)] 24) = W0 := ⟨_, rfl⟩
  refine (callsIn_wide (n := 9)).1 ?_
  refine callsIn_of_wp_marks Try.func6 rfl trivial ?_ rfl
  simp only [Try.ntmps6, List.size_toArray, List.length_cons, List.length_nil, Nat.reduceAdd, Nat.reduceSub, Array.replicate_succ, Array.replicate_zero, List.push_toArray, List.append_toArray, List.nil_append, List.cons_append]
  gi_wp2_with fail
  have hb0 : Below S w W0 := by
    rw [← hW0]
    exact ((((Below.refl S w).alloc (by omega) _).alloc (by simp; omega) _).alloc (by simp; omega) _).alloc (by simp; omega) _
  have hsz : W0.heap.size = S + 4 := by rw [← hW0]; simp; omega
  have kx : Blk W0 S 28 #[.slice yA m yc, .int .i64 yn, .int .i64 yh] := by
    have := (((Blk.new w 28 #[.slice yA m yc, .int .i64 yn, .int .i64 yh]).alloc (.cells #[.bool false] 4)).alloc (.cells #[.slice none 0 0] 42)).alloc (.cells #[.pointer none, .pointer (some ⟨S + 2, 0, none⟩)] 24)
    rwa [hW0, hS] at this
  have kb : Boxed W0 (S + 1) 4 (.bool false) := by
    have := ((Boxed.new (w.alloc (.cells #[.slice yA m yc, .int .i64 yn, .int .i64 yh] 28)) 4 (.bool false)).alloc (.cells #[.slice none 0 0] 42)).alloc (.cells #[.pointer none, .pointer (some ⟨S + 2, 0, none⟩)] 24)
    rwa [hW0, World.size_alloc, hS] at this
  have kl : Boxed W0 (S + 2) 42 (.slice none 0 0) := by
    have := (Boxed.new ((w.alloc (.cells #[.slice yA m yc, .int .i64 yn, .int .i64 yh] 28)).alloc (.cells #[.bool false] 4)) 42 (.slice none 0 0)).alloc (.cells #[.pointer none, .pointer (some ⟨S + 2, 0, none⟩)] 24)
    rwa [hW0, World.size_alloc, World.size_alloc, hS] at this
  have kp : Blk W0 (S + 3) 24 #[.pointer none, .pointer (some ⟨S + 2, 0, none⟩)] := by
    have := Blk.new (((w.alloc (.cells #[.slice yA m yc, .int .i64 yn, .int .i64 yh] 28)).alloc (.cells #[.bool false] 4)).alloc (.cells #[.slice none 0 0] 42)) 24 #[.pointer none, .pointer (some ⟨S + 2, 0, none⟩)]
    rwa [hW0, World.size_alloc, World.size_alloc, World.size_alloc, hS] at this
  have hbK0 : Bs W0 yA K := by rw [← hW0]; exact (((hbK.alloc _).alloc _).alloc _).alloc _
  clear hW0 hbK
  refine wpIn_loop (fun a' w' => ∃ (u6 u7 u9 u10 u11 u12 u13 u14 u15 u16 u17 u18 u19 u20 u21 u22 u23 u24 u25 u26 u27 u28 u29 u30 u31 u32 u33 u34 u35 u36 u37 u38 u39 u40 u41 u42 u43 u44 u45 u46 u47 u48 u49 u50 u51 u52 u53 u54 u55 u56 : Value) (k : Nat) (ds : List Nat), a' = { tmps := #[.agg #[.slice yA m yc, .int .i64 yn, .int .i64 yh], .pointer (some ⟨S, 0, none⟩), .pointer (some ⟨S + 1, 0, none⟩), .pointer (some ⟨S + 1 + 1, 0, none⟩), .slice (some ⟨S + 1 + 1 + 1, 0, none⟩) 2 2, .int .i64 (k : Int), u6, u7, .slice (some ⟨S + 1 + 1 + 1, 0, none⟩) 2 2, u9, u10, u11, u12, u13, u14, u15, u16, u17, u18, u19, u20, u21, u22, u23, u24, u25, u26, u27, u28, u29, u30, u31, u32, u33, u34, u35, u36, u37, u38, u39, u40, u41, u42, u43, u44, u45, u46, u47, u48, u49, u50, u51, u52, u53, u54, u55, u56, undef], defers := ds.map markV } ∧ k ≤ 2 ∧ ds.Nodup ∧ MarksV W0.heap.size ds w' ∧ Below W0.heap.size W0 w') (fun a' _ => 2 - (intOf (a'.tmps.getD 5 undef)).toNat) ?_ ?_
  · exact ⟨_, _, _, _, _, _, _, _, _, _, _, _, _, _, _, _, _, _, _, _, _, _, _, _, _, _, _, _, _, _, _, _, _, _, _, _, _, _, _, _, _, _, _, _, _, _, _, _, _, _, 0, [], rfl, by omega, List.nodup_nil, (fun D hD => by cases hD), Below.refl _ _⟩
  · rintro a' wr ⟨u6, u7, u9, u10, u11, u12, u13, u14, u15, u16, u17, u18, u19, u20, u21, u22, u23, u24, u25, u26, u27, u28, u29, u30, u31, u32, u33, u34, u35, u36, u37, u38, u39, u40, u41, u42, u43, u44, u45, u46, u47, u48, u49, u50, u51, u52, u53, u54, u55, u56, k, ds, rfl, hk, hnd, hds, hbel⟩
    replace hds := Lib.hid hds
    replace hnd := Lib.hid hnd
    by_cases hlt : k < 2
    · obtain ⟨q, hq, hv⟩ : ∃ q, W0.cell? ⟨S + 1 + 1 + 1, k, none⟩ = some (.pointer q) ∧ VoidL q W0 := by
        rcases (show k = 0 ∨ k = 1 by omega) with rfl | rfl
        · exact ⟨none, kp.cell 0, .inl rfl⟩
        · exact ⟨some ⟨S + 2, 0, none⟩, kp.cell 1, .inr ⟨S + 2, rfl, kl⟩⟩
      have hqr : wr.cell? ⟨S + 1 + 1 + 1, k, none⟩ = some (.pointer q) := (hbel.cell (p := ⟨S + 1 + 1 + 1, k, none⟩) (show S + 1 + 1 + 1 < W0.heap.size by omega)).trans hq
      have kxr := kx.below hbel kx.lt
      have hx0 := kxr.cell 0
      have hx1 := kxr.cell 1
      have hx2 := kxr.cell 2
      have hvr : ∀ j, VoidL q (wr.drewN j) := fun j => hv.below (below_drewN hbel j)
      replace hvr := Lib.hid hvr
      gi_wp2_with fail
      refine wpIn_wide.2 ?_
      go_quiet (first
        | (go_at_call 9; exact Calls.quiet_of_same ((put_void _ q (hvr.out _) yA m yc yn yh).mono fun e w' h => ⟨h.1, h.2.symm⟩))
        | (go_at_call 11; exact Calls.quiet_of_same ((len_void _ q (hvr.out _)).mono fun e w' h => ⟨h.1, h.2.symm⟩)))
      rename_i nq
      have hb1 : Below W0.heap.size W0 (wr.drewN nq) := below_drewN hbel nq
      have hd1 : MarksV W0.heap.size ds (wr.drewN nq) := fun D hD => hds.out D hD
      replace hd1 := Lib.hid hd1
      clear hqr kxr hx0 hx1 hx2 hvr hds hbel
      generalize wr.drewN nq = w1 at *
      have hqr : w1.cell? ⟨S + 1 + 1 + 1, k, none⟩ = some (.pointer q) := (hb1.cell (p := ⟨S + 1 + 1 + 1, k, none⟩) (show S + 1 + 1 + 1 < W0.heap.size by omega)).trans hq
      have kxr := kx.below hb1 kx.lt
      have hx0 := kxr.cell 0
      have hx1 := kxr.cell 1
      have hx2 := kxr.cell 2
      have pf := from_any w1.drew q K yA m yc hm.out hK (hbK0.below hb1.drew)
      gi_wp2_with fail
      obtain ⟨C, hC⟩ : ∃ C, w1.drew.heap.size = C := ⟨_, rfl⟩
      rw [hC] at pf
      refine wpIn_mono (Q := fun e a2 w2 => match e with
        | .normal => ∃ (v7 v9 v10 v11 v12 v13 v14 v15 v16 v17 v18 v19 v20 v21 v22 v23 v24 v25 v26 v27 v28 v29 v30 v31 v32 v33 v34 v35 v36 v37 v38 v39 v40 v41 v42 v43 v44 v45 v46 v47 v48 v49 v50 v51 v52 v53 v54 v55 v56 : Value), a2 = { tmps := #[.agg #[.slice yA m yc, .int .i64 yn, .int .i64 yh], .pointer (some ⟨S, 0, none⟩), .pointer (some ⟨S + 1, 0, none⟩), .pointer (some ⟨S + 1 + 1, 0, none⟩), .slice (some ⟨S + 1 + 1 + 1, 0, none⟩) 2 2, .int .i64 (k : Int), .func (.func 19) #[] #[.pointer (some ⟨C, 0, none⟩), .pointer (some ⟨C + 1, 0, none⟩)], v7, .slice (some ⟨S + 1 + 1 + 1, 0, none⟩) 2 2, v9, v10, v11, v12, v13, v14, v15, v16, v17, v18, v19, v20, v21, v22, v23, v24, v25, v26, v27, v28, v29, v30, v31, v32, v33, v34, v35, v36, v37, v38, v39, v40, v41, v42, v43, v44, v45, v46, v47, v48, v49, v50, v51, v52, v53, v54, v55, v56, undef], defers := ds.map markV } ∧ Boxed w2 C 24 (.pointer q) ∧ Below w1.heap.size w1 w2
        | _ => False) ?_ ?_
      · refine wpIn_wide.2 ?_
        go_region_with (go_at_call 13; refine pf.mono ?_; clear pf; rintro _ w2 ⟨A', c', rfl, bL, bK, hbs2, b2⟩)
        all_goals exact ⟨_, _, _, _, _, _, _, _, _, _, _, _, _, _, _, _, _, _, _, _, _, _, _, _, _, _, _, _, _, _, _, _, _, _, _, _, _, _, _, _, _, _, _, _, _, _, _, _, _, rfl, bL, (Below.refl _ w1).drew.trans (by rw [← hC] at b2; exact b2)⟩
      intro e a2 w2 h
      rcases e with _ | _ | _ | _ | _ <;> first | exact h.elim | skip
      obtain ⟨v7, v9, v10, v11, v12, v13, v14, v15, v16, v17, v18, v19, v20, v21, v22, v23, v24, v25, v26, v27, v28, v29, v30, v31, v32, v33, v34, v35, v36, v37, v38, v39, v40, v41, v42, v43, v44, v45, v46, v47, v48, v49, v50, v51, v52, v53, v54, v55, v56, rfl, bL, hb12⟩ := h
      clear hx0 hx1 hx2 pf kxr hqr
      have hb2 : Below W0.heap.size W0 w2 := hb1.trans (hb12.mono hb1.size)
      have hd2 := hd1.out.below hb12
      replace hd2 := Lib.hid hd2
      have hs2 := hb12.size
      have hqr : w2.cell? ⟨S + 1 + 1 + 1, k, none⟩ = some (.pointer q) := (hb2.cell (p := ⟨S + 1 + 1 + 1, k, none⟩) (show S + 1 + 1 + 1 < W0.heap.size by omega)).trans hq
      gi_wp2_with fail
      refine ⟨trivial, (callsIn_wide.2 (all_void w2 q)).mono ?_⟩
      rintro _ w3 ⟨A2, c2, rfl, bL2, bK2, hbs3, hb23⟩
      obtain ⟨D2, hD2⟩ : ∃ D2, w2.heap.size = D2 := ⟨_, rfl⟩
      have hb3 : Below W0.heap.size W0 w3 := hb2.trans (hb23.mono hb2.size)
      have hd3 := hd2.out.below hb23
      replace hd3 := Lib.hid hd3
      have hs3 := hb23.size
      have bL3 : Boxed w3 C 24 (.pointer q) := (hb23.block _ bL.lt).trans bL
      have hbs := hb3.size
      rw [hD2] at bL2 hs3 ⊢
      replace hD2 := Lib.hid hD2
      have fn1 := func_nil w3 _ rfl 19 (.pointer (some ⟨C, 0, none⟩)) (.pointer (some ⟨C + 1, 0, none⟩))
      have fn2 := func_nil w3 _ rfl 19 (.pointer (some ⟨D2, 0, none⟩)) (.pointer (some ⟨D2 + 1, 0, none⟩))
      gi_wp2_with fail
      clear fn1 fn2
      refine wpIn_range_none (by omega) rfl (gf := 19) (lb := #[.pointer (some ⟨C, 0, none⟩), .pointer (some ⟨C + 1, 0, none⟩)]) rfl (enters_of Try.func19 (by kernel_rfl) rfl) (void_seq _ C W0.heap.size q w3 (hv.below hb3) bL3) hb3.size ?_
      rintro E1 w4 hE1 hb34 hK1
      have hb4 : Below W0.heap.size W0 w4 := hb3.trans (hb34.mono hb3.size)
      have hd4 : MarksV W0.heap.size (E1 :: ds) w4 := fun E hE => by
        rcases List.mem_cons.1 hE with rfl | hE
        · exact ⟨by omega, hK1⟩
        · exact hd3.out.below hb34 E hE
      have hnd4 : (E1 :: ds).Nodup := List.nodup_cons.2 ⟨fun h => by have := hd3.out.lt E1 h; omega, hnd.out⟩
      replace hd4 := Lib.hid hd4
      replace hnd4 := Lib.hid hnd4
      have hs4 := hb34.size
      have bL4 : Boxed w4 D2 24 (.pointer q) := (hb34.block _ bL2.lt).trans bL2
      clear hK1
      gi_wp2_with fail
      refine wpIn_range_none (by omega) rfl (gf := 19) (lb := #[.pointer (some ⟨D2, 0, none⟩), .pointer (some ⟨D2 + 1, 0, none⟩)]) rfl (enters_of Try.func19 (by kernel_rfl) rfl) (void_seq _ D2 W0.heap.size q w4 (hv.below hb4) bL4) hb4.size ?_
      rintro E2 w5 hE2 hb45 hK2
      have hb5 : Below W0.heap.size W0 w5 := hb4.trans (hb45.mono hb4.size)
      have hd5 : MarksV W0.heap.size (E2 :: E1 :: ds) w5 := fun E hE => by
        rcases List.mem_cons.1 hE with rfl | hE
        · exact ⟨by have := hb4.size; omega, hK2⟩
        · exact hd4.out.below hb45 E hE
      have hnd5 : (E2 :: E1 :: ds).Nodup := List.nodup_cons.2 ⟨fun h => by have := hd4.out.lt E2 h; omega, hnd4.out⟩
      replace hd5 := Lib.hid hd5
      replace hnd5 := Lib.hid hnd5
      clear hK2
      gi_wp2
      refine ⟨⟨_, _, _, _, _, _, _, _, _, _, _, _, _, _, _, _, _, _, _, _, _, _, _, _, _, _, _, _, _, _, _, _, _, _, _, _, _, _, _, _, _, _, _, _, _, _, _, _, _, _, k + 1, E2 :: E1 :: ds, rfl, by omega, hnd5.out, hd5.out, hb5⟩, ?_⟩
      simp [intOf]
      omega
    · have hk2 : k = 2 := by omega
      subst hk2
      have pl := lives_any wr
      gi_wp2_with fail
      refine ⟨trivial, (callsIn_wide.2 pl).mono ?_⟩
      clear pl
      rintro _ w2 ⟨rfl, hb⟩
      have hb2 : Below W0.heap.size W0 w2 := hbel.trans (hb.mono hbel.size)
      have kb2 : Boxed w2 (S + 1) 4 (.bool false) := (hb2.block _ kb.lt).trans kb
      have hc2 := kb2.cell
      have hf2 := kb2.frozen
      gi_wp2
      have bB := hb2.size
      refine leaves_marksV W0.heap.size ds _ hnd.out ?_ ?_
      · exact fun D hD => ⟨(hds.out D hD).1, (heap_setCell_other w2 ⟨S + 1, 0, none⟩ D (.bool true) (fun e => by have h1 : D = S + 1 := e; have := (hds.out D hD).1; omega)).trans ((hb.block D (hds.out.lt D hD)).trans (hds.out D hD).2)⟩
      · intro W' hbW hk'
        have kb3 : Boxed W' (S + 1) 4 (.bool true) := hk' _ _ _ (kb2.set _)
        refine ⟨_, results_cell_boolV rfl _ _ (S + 1) true rfl Try.underlying4 kb3.cell, rfl, ?_⟩
        rw [hS]
        exact (hb0.trans ((hb2.mono (by omega)).setCell (p := ⟨S + 1, 0, none⟩) (by simp) _)).trans (hbW.mono (by omega))

/-! ### from the walk to the statement (by tail.py) -/
set_option maxRecDepth 100000 in
theorem lifted (os : Os) (started : os.Started) (H : Type) (enc : TypeId × Value → H) :
    ReturnsInHanded {} Try.checked os 6 .any (Rows.skipsVoidSpec.pre6 enc Try.prog Try.f6 Rows.skipsVoidRow.domain false) (Rows.skipsVoidSpec.post enc Try.prog Try.f6 false true false false) := by
  refine lifted_of (C := Try.checked) (tb := 4) (n := 1) (by kernel_rfl) started (by kernel_rfl) Try.func6 (by kernel_rfl) (by kernel_rfl) rfl (by kernel_rfl) Try.underlying4 (by kernel_rfl)
    (fun ds hd => by match ds, hd with | [d1], _ => exact ⟨rfl, rfl, rfl⟩)
    (ChangeSpec.witness6 (enc := enc) (C := Try.checked) false ⟨#[], #[.agg #[.slice none 0 0, .int .i64 0, .int .i64 0]], []⟩ 8 (by kernel_rfl) (by kernel_rfl) (by kernel_rfl) (by kernel_rfl)) ?_
  intro W base args ds before hval hA hsz
  rw [Try.params6] at hA hval hsz
  obtain ⟨v0, vs0, d0, ds0, p0, q0, rfl, rfl, rfl, h0, r0⟩ := trodAll_cons hA
  obtain ⟨rfl, rfl, rfl⟩ := trodAll_nil r0
  obtain ⟨y0, rfl, hb0, hlc0, hr0, hcap0⟩ := open_laid (hval 0 _ _ rfl rfl) h0
  have hc0 := hcap0 hsz 0 rfl rfl
  exact walk W y0 hb0 (by have := reachBytes_lt; omega) hlc0

theorem over : Rows.skipsVoidRow.holds Try.pinned (OpenSpec.ofChange Rows.skipsVoidSpec) :=
  OpenClaim.holds_of_wide 6 Try.f6 rfl rfl rfl rfl rfl rfl rfl ⟨rfl, rfl, rfl, rfl, rfl⟩ rfl rfl rfl rfl rfl (by kernel_rfl) Try.func6 (by kernel_rfl)
    (of_decide_eq_true (by kernel_rfl)) (by unfold Func.isWrapper; first | (rw [if_pos (by decide +kernel)]; kernel_rfl) | (rw [if_neg (by decide +kernel)]; exact ⟨rfl, rfl⟩))
    (fun os started H enc _ => lifted os started H enc)

theorem proved : Rows.SkipsVoidSaid := over
end Go.Proofs.Ytkijcphkmikdbaa.lawSkipsVoid
