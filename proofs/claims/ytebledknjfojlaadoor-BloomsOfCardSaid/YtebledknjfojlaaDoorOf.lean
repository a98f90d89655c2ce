/- The walk of blooms.Of (draft). -/
import Derived.Test.YtebledknjfojlaaDoorHas
import Derived.Test.YtebledknjfojlaaDoorStrs
import Derived.Test.YtebledknjfojlaaDoorBloomSet
import Derived.Test.YtebledknjfojlaaDoorRound
set_option linter.unusedSimpArgs false
set_option linter.unusedVariables false
namespace Go.Proofs.YtebledknjfojlaaDoor
open Go Go.RowKit Go.Shelf Herb
attribute [local go_sem] Oper.semAt_some

theorem blk_own {β : Type} (g : Nat) (t : TypeId) (f : β → Array Value) : Own (fun s W => Blk W g t (f s)) := fun s X Y row h hg hr =>
  Blk.grown h hg (fun e => by
    obtain ⟨o, ho, hc⟩ := hr g e.symm
    unfold Blk at h
    rw [h] at ho
    cases ho
    cases hc)

/-- Marks among an activation's deferred calls: their blocks are empty. -/
def Marks (B : Nat) (ds : List Nat) (W : World) : Prop := ∀ D ∈ ds, B ≤ D ∧ W.heap[D]? = some (.deferred (some []))
def mark (D : Nat) : Deferred := { target := .collected D, args := #[] }
theorem marks_own {β : Type} (B : Nat) (ds : List Nat) (C : Nat) (hlt : ∀ D ∈ ds, D < C) : OwnFrom C (fun (_ : β) W => Marks B ds W) := fun s X Y row h hg hr D hD =>
  ⟨(h D hD).1, (hg.block D (Array.getElem?_eq_some_iff.1 (h D hD).2).1 (fun e => by have := (hr D e.symm).1; have := hlt D hD; omega)).trans (h D hD).2⟩
theorem leaves_marks {F : Fence} {n : Nat} {P : Program} {fn : Func} {tmps : Array Value} {R : Ending → World → Prop} (B : Nat) : ∀ (ds : List Nat) (W : World), ds.Nodup → Marks B ds W →
    (∀ W', Below B W W' → (∀ g t cs, Blk W g t cs → Blk W' g t cs) → LeavesInM F n P fn tmps R [] .returning W') → LeavesInM F n P fn tmps R (ds.map mark) .returning W
  | [], W, _, _, h => h W (Below.refl _ _) fun _ _ _ hb => hb
  | D :: ds, W, hnd, hm, h => by
    obtain ⟨hD, ho⟩ := hm D List.mem_cons_self
    rw [List.nodup_cons] at hnd
    refine ⟨by simp, .inl ⟨D, _, rfl, run_takeDeferred ho, ?_⟩⟩
    refine leaves_marks B ds _ hnd.2 (fun E hE => ⟨(hm E (List.mem_cons_of_mem _ hE)).1, ?_⟩) fun W' hb hk => h W' ?_ ?_
    · rw [World.putObj_heap_other (fun e => hnd.1 (by rw [← e]; exact hE))]
      exact (hm E (List.mem_cons_of_mem _ hE)).2
    · exact ((Below.refl B W).grown (grownBy_putObj' W D _) (by have := (Array.getElem?_eq_some_iff.1 ho).1; omega) (fun k e => by cases e; exact hD)).trans hb
    · intro g t cs hg
      refine hk g t cs ?_
      unfold Blk
      rw [World.putObj_heap_other (fun e => by subst e; unfold Blk at hg; rw [ho] at hg; cases hg)]
      exact hg
theorem bvs_set (l : List UInt8) (i : Nat) (c : UInt8) : (bvs l).toArray.setIfInBounds i (.int .u8 (c.toNat : Int)) = (bvs (l.set i c)).toArray := by
  rw [List.setIfInBounds_toArray]
  congr 1
  unfold bvs bv
  rw [List.map_set]
theorem Blk.boxed {W : World} {g : Nat} {t : TypeId} {v : Value} (h : Blk W g t #[v]) : Boxed W g t v := h

set_option maxRecDepth 100000 in
set_option maxHeartbeats 1600000 in
theorem of_keys (w : World) (A : Option Addr) (n c : Nat) (ks : List ByteArray) (hn : ks.length = n) (hl : n ≤ 100000) (hs : ∀ s ∈ ks, s.size ≤ 140737488355328) (hb : Ss w A ks) :
    Calls Tryd.prog 7 #[.slice A n c] w fun e w' => ∃ g, e = .returned (.slice (some ⟨g, 0, none⟩) (room n + 1) (room n + 1)) ∧ Blk w' g 5 (bvs (ofP ks)).toArray ∧ w.heap.size ≤ g ∧ Below w.heap.size w w' := by
  obtain ⟨B, hB⟩ : ∃ B, room n = B := ⟨_, rfl⟩
  have hB8 : 8 ≤ B ∧ B ≤ 200000 := by rw [← hB]; unfold room; omega
  have hmx : max (8 : Int) ((10 * (n : Int) + 7) / 8) = (B : Int) := by rw [← hB]; unfold room; omega
  have hmax := fun w => run_max2 (P := Tryd.prog) #[3, 3] 3 .i64 8 ((10 * (n : Int) + 7) / 8) w
  rw [hmx] at hmax
  have hmk := fun w => make_one (P := Tryd.prog) Tryd.underlying26 info_u8 rfl (B + 1) ((B : Int) + 1) (by omega) (by omega) (by omega) w
  rw [hB]
  replace hB := Lib.hid hB
  replace hs := Lib.hid hs
  replace hn := Lib.hid hn
  refine (callsIn_wide (n := 9)).1 ?_
  refine callsIn_of_wp_marks Tryd.func7 rfl trivial ?_ rfl
  simp only [Tryd.ntmps7, List.size_toArray, List.length_cons, List.length_nil, Nat.reduceAdd, Nat.reduceSub, Array.replicate_succ, Array.replicate_zero, List.push_toArray, List.append_toArray, List.nil_append, List.cons_append]
  gi_wp2_with fail
  refine wpIn_loop (fun a' w' => ∃ (u5 u6 u18 u19 u20 u21 u22 u23 u24 u25 u26 u27 u28 u29 u30 u31 u32 u33 u34 u35 u36 u37 u38 : Value) (k : Nat) (ds : List Nat), a' = { tmps := #[.slice A n c, undef, .slice none 0 0, .pointer (some ⟨w.heap.size + 1, 0, none⟩), undef, u5, u6, .slice A n c, .int .i64 (n : Int), .int .i64 (10 * (n : Int)), .int .i64 (10 * (n : Int) + 7), .int .i64 ((10 * (n : Int) + 7) / 8), .int .i64 (B : Int), .int .i64 ((B : Int) + 1), .slice (some ⟨w.heap.size, 0, none⟩) (B + 1) (B + 1), .slice A n c, .int .i64 (n : Int), .int .i64 (k : Int), u18, u19, u20, u21, u22, u23, u24, u25, u26, u27, u28, u29, u30, u31, u32, u33, u34, u35, u36, u37, u38, undef, undef, undef, undef, undef, undef], defers := ds.map mark } ∧ k ≤ n ∧ ds.Nodup ∧ Marks w.heap.size ds w' ∧
    Blk w' w.heap.size 5 (bvs (told (8 * B) (List.replicate B 0) (ks.take k) ++ [0])).toArray ∧ Boxed w' (w.heap.size + 1) 26 (.slice (some ⟨w.heap.size, 0, none⟩) (B + 1) (B + 1)) ∧ Below w.heap.size w w') (fun a' _ => n - (intOf (a'.tmps.getD 17 undef)).toNat) ?_ ?_
  · refine ⟨_, _, _, _, _, _, _, _, _, _, _, _, _, _, _, _, _, _, _, _, _, _, _, 0, [], rfl, by omega, List.nodup_nil, (fun D hD => by cases hD), ?_, ?_, ?_⟩
    · have e : Array.replicate (B + 1) (Value.int .u8 0) = (bvs (told (8 * B) (List.replicate B 0) (ks.take 0) ++ [0])).toArray := by
        rw [List.take_zero]
        show _ = (bvs (List.replicate B 0 ++ [0])).toArray
        rw [← List.replicate_succ', ← Array.toList_inj]
        simp [bvs, bv]
      rw [e]
      exact (Blk.new _ _ _).alloc _
    · have := Boxed.new (w.alloc (.cells (Array.replicate (B + 1) (Value.int .u8 0)) 5)) 26 (.slice (some ⟨w.heap.size, 0, none⟩) (B + 1) (B + 1))
      rwa [World.size_alloc] at this
    · exact ((Below.refl _ _).alloc (Nat.le_refl _) _).alloc (by simp) _
  · rintro a' wr ⟨u5, u6, u18, u19, u20, u21, u22, u23, u24, u25, u26, u27, u28, u29, u30, u31, u32, u33, u34, u35, u36, u37, u38, k, ds, rfl, hk, hnd, hds, hrow, hbox, hbel⟩
    by_cases hlt : k < n
    · obtain ⟨b, off, rfl, hq, hcell⟩ := (hb.below hbel).at_ (k := k) (by rw [hn.out]; exact hlt)
      have hsz := hs.out _ (List.getElem_mem (show k < ks.length by rw [hn.out]; exact hlt))
      obtain ⟨key, hkey⟩ : ∃ key, ks[k]'(by rw [hn.out]; exact hlt) = key := ⟨_, rfl⟩
      rw [hkey] at hcell hsz
      have htake : ks.take (k + 1) = ks.take k ++ [key] := by rw [List.take_succ_eq_append_getElem (by rw [hn.out]; exact hlt), hkey]
      replace hkey := Lib.hid hkey
      replace htake := Lib.hid htake
      replace hds := Lib.hid hds
      have hbc := hbox.cell
      obtain ⟨M, hM⟩ : ∃ M, 8 * B = M := ⟨_, rfl⟩
      have hMi : 8 * (B : Int) = (M : Int) := by omega
      have hM0 : 0 < M := by omega
      have hMB : M ≤ 1600000 := by omega
      rw [hM] at hrow
      replace hM := Lib.hid hM
      gi_wp2_with fail
      refine ⟨trivial, (places_in _ key M wr).mono ?_⟩
      rintro _ w1 ⟨rfl, rfl⟩
      have bK := (Boxed.new wr 9 (.string key)).alloc (.cells #[.int .i64 (M : Int)] 3)
      have bM := Boxed.new (wr.alloc (.cells #[.string key] 9)) 3 (.int .i64 (M : Int))
      rw [World.size_alloc] at bM
      obtain ⟨C, hC⟩ : ∃ C, wr.heap.size = C := ⟨_, rfl⟩
      have bB2 := (hbox.alloc (.cells #[.string key] 9)).alloc (.cells #[.int .i64 (M : Int)] 3)
      have bR2 := (hrow.alloc (.cells #[.string key] 9)).alloc (.cells #[.int .i64 (M : Int)] 3)
      have hB2 := (hbel.alloc hbel.size (.cells #[.string key] 9)).alloc (by have := hbel.size; simp; omega) (.cells #[.int .i64 (M : Int)] 3)
      have hsz1 : ((wr.alloc (.cells #[.string key] 9)).alloc (.cells #[.int .i64 (M : Int)] 3)).heap.size = C + 2 := by simp; omega
      have hm1 : Marks w.heap.size ds ((wr.alloc (.cells #[.string key] 9)).alloc (.cells #[.int .i64 (M : Int)] 3)) := fun D hD => by
        have h := hds.out D hD
        have hlt := (Array.getElem?_eq_some_iff.1 h.2).1
        exact ⟨h.1, (Below.heap_alloc _ _ _ (by simp; omega)).trans ((Below.heap_alloc _ _ _ hlt).trans h.2)⟩
      have hdl : ∀ D ∈ ds, D < C := fun D hD => by have := (Array.getElem?_eq_some_iff.1 (hds.out D hD).2).1; omega
      have hCw : w.heap.size + 2 ≤ C := by have := hbox.lt; omega
      rw [hC] at bK bM ⊢
      generalize (wr.alloc (.cells #[.string key] 9)).alloc (.cells #[.int .i64 (M : Int)] 3) = w1 at *
      replace hC := Lib.hid hC
      replace hdl := Lib.hid hdl
      replace hm1 := Lib.hid hm1
      clear hbc hrow hcell hbox hds
      obtain ⟨cur, hcur⟩ : ∃ cur, told M (List.replicate B 0) (ks.take k) = cur := ⟨_, rfl⟩
      have hcl : cur.length = B := by rw [← hcur, told_length, List.length_replicate]
      rw [hcur] at bR2
      replace hcur := Lib.hid hcur
      replace hcl := Lib.hid hcl
      have hfl : ∀ ps : List Nat, (ps.foldl setBit cur).length = B := fun ps => by rw [foldl_length, hcl.out]
      replace hfl := Lib.hid hfl
      gi_wp2_with fail
      refine wpIn_rangeFunc_ownG rfl (by omega) (gf := 21) (lb := #[.pointer (some ⟨C, 0, none⟩), .pointer (some ⟨C + 1, 0, none⟩)]) rfl trivial (enters_of Tryd.func21 (by kernel_rfl) rfl)
        (places_stops _ C M key (text key) rfl key.size rfl hsz hM0 (by omega) w1 bK bM) keeps2_t (keeps2_b (by omega)) (Below.refl _ _) (fun _ => rfl)
        (fun pre W => Blk W w.heap.size 5 (bvs ((pre.map (·.1)).foldl setBit cur ++ [0])).toArray ∧ Boxed W (w.heap.size + 1) 26 (.slice (some ⟨w.heap.size, 0, none⟩) (B + 1) (B + 1)) ∧ Marks w.heap.size ds W ∧ Below w.heap.size w W)
        (fun _ _ _ => False)
        (OwnFrom.and (Own.from (blk_own _ _ _) _) (OwnFrom.and (Own.from (boxed_own _ _ _) _) (OwnFrom.and (marks_own _ _ _ (fun D hD => by have := hdl.out D hD; omega)) (ownFrom_below (Nat.le_refl _) (by omega)))))
        (fun cd s X Y row h _ _ => h)
        ⟨bR2, bB2, hm1.out, hB2⟩
        (fun x => { tmps := #[.slice (some ⟨b, off, none⟩) n c, undef, .slice none 0 0, .pointer (some ⟨w.heap.size + 1, 0, none⟩), undef, .string key, .int .i64 (x.1 : Int), .slice (some ⟨b, off, none⟩) n c, .int .i64 (n : Int), .int .i64 (10 * (n : Int)), .int .i64 (10 * (n : Int) + 7), .int .i64 ((10 * (n : Int) + 7) / 8), .int .i64 (B : Int), .int .i64 ((B : Int) + 1), .slice (some ⟨w.heap.size, 0, none⟩) (B + 1) (B + 1), .slice (some ⟨b, off, none⟩) n c, .int .i64 (n : Int), .int .i64 (k : Int), .bool true, .pointer (some ⟨b, off + k, none⟩), .string key, .string key, .slice (some ⟨w.heap.size, 0, none⟩) (B + 1) (B + 1), .int .i64 ((B : Int) + 1), .int .i64 (B : Int), .int .i64 (M : Int), .func (.func 21) #[] #[.pointer (some ⟨C, 0, none⟩), .pointer (some ⟨C + 1, 0, none⟩)], .int .i64 (x.1 : Int), u28, u29, u30, u31, u32, u33, u34, u35, u36, u37, u38, undef, undef, undef, undef, undef, undef], defers := [] }) ?assign ?body ?done ?stop
      case assign =>
        intro l x W K hK
        simp only [encN]
        gi_wp2
        exact hK
      case body =>
        rintro lp pre ⟨x, hx⟩ W ⟨hrx, hbx, hmk, hB⟩ hlen
        have hM' := hM.out
        obtain ⟨q, hq8⟩ : ∃ q, x / 8 = q := ⟨_, rfl⟩
        obtain ⟨r, hr8⟩ : ∃ r, x % 8 = r := ⟨_, rfl⟩
        have hqB : q < B := by omega
        have hr7 : r < 8 := by omega
        have hqi : (x : Int) / 8 = (q : Int) := by omega
        have hri : (x : Int) % 8 = (r : Int) := by omega
        obtain ⟨L, hL⟩ : ∃ L, (pre.map (·.1)).foldl setBit cur = L := ⟨_, rfl⟩
        have hLl : L.length = B := by rw [← hL]; exact hfl.out _
        have hset : ((pre ++ [(⟨x, hx⟩ : { x : Nat // x < M })]).map (·.1)).foldl setBit cur = setBit L x := by rw [List.map_append, List.foldl_append, hL]; rfl
        rw [hL] at hrx
        have hbc := hbx.cell
        obtain ⟨y, hye⟩ : ∃ y, (L[q]'(by omega)).toNat = y := ⟨_, rfl⟩
        have hy : y < 256 := by rw [← hye]; exact (L[q]'(by omega)).toNat_lt
        have hrc : W.cell? ⟨w.heap.size, q, none⟩ = some (.int .u8 (y : Int)) := by
          rw [hrx.cell, List.getElem?_toArray, bvs_get (by simp; omega), List.getElem_append_left (by omega), ← hye]
          rfl
        have hrf := hrx.frozen q
        have hp256 : 2 ^ r < 256 := by rw [← hr8]; exact pow_lt256 x
        have hor : (bvs (L ++ [0])).toArray.setIfInBounds q (.int .u8 ((y ||| 2 ^ r : Nat) : Int)) = (bvs (setBit L x ++ [0])).toArray := by
          have e : y ||| 2 ^ r = (L[q]'(by omega) ||| UInt8.ofNat (2 ^ r)).toNat := by rw [UInt8.toNat_or, UInt8.toNat_ofNat', Nat.mod_eq_of_lt hp256, hye]
          have hget : L.getD q 0 = L[q]'(by omega) := by simp [List.getD, show q < L.length by omega]
          rw [e, bvs_set, List.set_append_left _ _ (by omega)]
          unfold setBit
          rw [hq8, hr8, hget]
        obtain ⟨t, ht⟩ : ∃ t, 2 ^ r = t := ⟨_, rfl⟩
        rw [ht] at hor hp256
        have htm : (x : Int).tmod 8 = (r : Int) := by rw [Int.tmod_eq_emod_of_nonneg (by omega)]; exact hri
        have hsh : ∀ w, (Op.shift .shl .u8 1 .i64 (r : Int)).run Tryd.prog w = .ok (.int .u8 (t : Int)) w := fun w => by
          rw [shift_shl_any _ _ _ _ (by omega), Sem.run_pure]
          congr 2
          rw [Int.one_mul, Int.toNat_natCast, Nat.min_eq_left (show r ≤ IntKind.u8.bits by show r ≤ 8; omega), IntKind.wrap_u8]
          rw [show ((2 : Int) ^ r) = ((2 ^ r : Nat) : Int) by simp, ht]
          omega
        have h2r : (2 : Int) ^ r % 256 = (t : Int) := by
          rw [show ((2 : Int) ^ r) = ((2 ^ r : Nat) : Int) by simp, ht]
          omega
        have hbo : bits .or .u8 (y : Int) ((2 : Int) ^ r % 256) = ((y ||| t : Nat) : Int) := by rw [h2r]; exact u8_or_nat y t hy hp256
        obtain ⟨z, hz⟩ : ∃ z, y ||| t = z := ⟨_, rfl⟩
        rw [hz] at hor hbo
        replace hz := Lib.hid hz
        replace hbo := Lib.hid hbo
        clear h2r
        replace ht := Lib.hid ht
        replace hset := Lib.hid hset
        replace hor := Lib.hid hor
        replace hmk := Lib.hid hmk
        replace hL := Lib.hid hL
        replace hLl := Lib.hid hLl
        replace hye := Lib.hid hye
        replace hq8 := Lib.hid hq8
        replace hr8 := Lib.hid hr8
        have hq0 : (0 : Int) ≤ (q : Int) := by omega
        have hqb : (q : Int) < (B : Int) + 1 := by omega
        have hw8 : IntKind.i64.wrap (q : Int) = (q : Int) := by rw [IntKind.wrap_i64]; omega
        have hw9 : IntKind.i64.wrap (r : Int) = (r : Int) := by rw [IntKind.wrap_i64]; omega
        have hfol : Tryd.prog.follows .mixedOrders = true := by kernel_rfl
        replace hM := Lib.hid hM'
        gi_wp2_with fail
        refine round_still_tail 9 hfol (by kernel_rfl) (by kernel_rfl) ?_
        simp only [List.take_succ_cons, List.take_zero, List.drop_succ_cons, List.drop_zero]
        repeat still_step
        refine wpStill_nil ?_
        clear hM' hqi hri htm
        go_wp2
        refine noOut_normal ?_
        gi_wp2
        rw [hbo.out]
        refine ⟨((KeepsOthers.setCell W ⟨w.heap.size, q, none⟩ (.int .u8 (z : Int))).trans (KeepsOthers.drew _)).from _, ⟨heap_setCell_other W ⟨w.heap.size, q, none⟩ C (.int .u8 (z : Int)) (by show C ≠ w.heap.size; omega), heap_setCell_other W ⟨w.heap.size, q, none⟩ (C + 1) (.int .u8 (z : Int)) (by show C + 1 ≠ w.heap.size; omega)⟩, ?_, ?_, ?_, ?_⟩
        · rw [hset.out, ← hor.out]
          exact hrx.store q _
        · exact (heap_setCell_other W ⟨w.heap.size, q, none⟩ (w.heap.size + 1) (.int .u8 (z : Int)) (by show w.heap.size + 1 ≠ w.heap.size; omega)).trans hbx
        · exact fun D hD => ⟨(hmk.out D hD).1, (heap_setCell_other W ⟨w.heap.size, q, none⟩ D (.int .u8 (z : Int)) (fun e => by
            have h := (hmk.out D hD).2
            have e' : D = w.heap.size := e
            subst e'
            unfold Blk at hrx
            rw [hrx] at h
            cases h)).trans (hmk.out D hD).2⟩
        · exact (hB.setCell (by simp) _).drew
      case done =>
        rintro D xs W hD rfl ⟨hrx, hbx, hmk, hB⟩ hK
        have hrow' : Blk W w.heap.size 5 (bvs (told M (List.replicate B 0) (ks.take (k + 1)) ++ [0])).toArray := by
          have e : (placesS (more 0 (text key)) M hM0).map (·.1) = places (more 0 (text key)) M := by simp [placesS, places, placeS, List.map_map, Function.comp_def]
          rw [e] at hrx
          rw [htake.out, told_snoc, hcur.out]
          exact hrx
        have hmk' : Marks w.heap.size (D :: ds) W := fun E hE => by
          rcases List.mem_cons.1 hE with rfl | hE
          · exact ⟨by omega, hK⟩
          · exact hmk E hE
        have hnd' : (D :: ds).Nodup := List.nodup_cons.2 ⟨fun h => by have := hdl.out D h; omega, hnd⟩
        replace hmk' := Lib.hid hmk'
        replace hnd' := Lib.hid hnd'
        clear hmk hK
        gi_wp2
        refine ⟨⟨_, _, _, _, _, _, _, _, _, _, _, _, _, _, _, _, _, _, _, _, _, _, _, k + 1, D :: ds, rfl, by omega, hnd'.out, hmk'.out, (by rw [hM.out]; exact hrow'), hbx, hB⟩, ?_⟩
        simp [intOf]
        omega
      case stop =>
        rintro D cd pre W hD hpre h
        exact h.elim
    · have hkn : k = n := by omega
      have hfin : told (8 * B) (List.replicate B 0) (ks.take k) ++ [6] = ofP ks := by
        unfold ofP
        rw [List.take_of_length_le (by rw [hn.out]; omega), hn.out, hB.out]
      replace hkn := Lib.hid hkn
      replace hfin := Lib.hid hfin
      have hbc := hbox.cell
      obtain ⟨cur, hcur⟩ : ∃ cur, told (8 * B) (List.replicate B 0) (ks.take k) = cur := ⟨_, rfl⟩
      have hcl : cur.length = B := by rw [← hcur, told_length, List.length_replicate]
      rw [hcur] at hrow hfin
      have hrc : wr.cell? ⟨w.heap.size, B, none⟩ = some (.int .u8 0) := by
        rw [hrow.cell, List.getElem?_toArray, bvs_get (by simp; omega), List.getElem_append_right (by omega)]
        simp [bv, hcl]
      have hrf := hrow.frozen B
      have hset : (bvs (cur ++ [0])).toArray.setIfInBounds B (.int .u8 6) = (bvs (cur ++ [6])).toArray := by
        have := bvs_set (cur ++ [0]) B 6
        rw [List.set_append_right _ _ (by omega), hcl, Nat.sub_self] at this
        exact this
      replace hset := Lib.hid hset
      replace hcur := Lib.hid hcur
      replace hcl := Lib.hid hcl
      replace hds := Lib.hid hds
      replace hnd := Lib.hid hnd
      gi_wp2
      refine leaves_marks w.heap.size ds _ hnd.out ?_ ?_
      · exact fun D hD => ⟨(hds.out D hD).1, (heap_setCell_other wr ⟨w.heap.size, B, none⟩ D (.int .u8 6) (fun e => by
          have h := (hds.out D hD).2
          have e' : D = w.heap.size := e
          subst e'
          unfold Blk at hrow
          rw [hrow] at h
          cases h)).trans (hds.out D hD).2⟩
      · intro W' hbW hk
        refine ⟨_, results_tmp rfl _ _ _, w.heap.size, rfl, ?_, Nat.le_refl _, ?_⟩
        · rw [← hfin.out, ← hset.out]
          exact hk _ _ _ (hrow.store B _)
        · exact (hbel.setCell (by simp) _).trans hbW
end Go.Proofs.YtebledknjfojlaaDoor
