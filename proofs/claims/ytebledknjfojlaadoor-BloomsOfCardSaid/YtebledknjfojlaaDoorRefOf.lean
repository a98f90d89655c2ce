/- The walk of the document's Of. -/
import Derived.Test.YtebledknjfojlaaDoorRefPlaces
import Derived.Test.YtebledknjfojlaaDoorOf
import Derived.Test.YtebledknjfojlaaDoorStrs
import Derived.Test.YtebledknjfojlaaDoorBloomSet
import Derived.Test.YtebledknjfojlaaDoorStill
set_option linter.unusedSimpArgs false
set_option linter.unusedVariables false
namespace Go.Proofs.YtebledknjfojlaaDoor
open Go Go.RowKit Herb
theorem own_far {w : World} {base g : Nat} {e : TypeId} {v : Value} {n : Nat} {xs : List Value} (h : w.ownsRow base e 1 v n xs) (hg : g < base) (i : Nat) (u : Value) : (w.setCell ⟨g, i, none⟩ u).ownsRow base e 1 v n xs := ownsRow_setCell_below h (a := ⟨g, i, none⟩) hg u
set_option maxRecDepth 100000 in
set_option maxHeartbeats 3200000 in
theorem refFilter_any (w : World) (A : Option Addr) (n c : Nat) (ks : List ByteArray) (hn : ks.length = n) (hl : n ≤ 100000) (hs : ∀ s ∈ ks, s.size ≤ 140737488355328) (hb : Ss w A ks) :
    Calls Tryd.prog 9 #[.slice A n c] w fun e w' => ∃ v, e = .returned v ∧ w'.ownsRow w.heap.size 5 1 v (room n + 1) (bvs (ofP ks)) ∧ Below w.heap.size w w' := by
  have hfol : Tryd.prog.follows .mixedOrders = true := by kernel_rfl
  replace hn := Lib.hid hn
  replace hs := Lib.hid hs
  by_cases h8 : (10 * n + 7) / 8 < 8
  · have hr : room n = 8 := by unfold room; omega
    have d1 : decide ((10 * (n : Int) + 7) / 8 < 8) = true := decide_eq_true (by omega)
    have hmk := fun w => make_one (P := Tryd.prog) Tryd.underlying26 info_u8 rfl 8 8 (by have := hl; omega) (by omega) (by omega) w
    have k0 : Blk (w.alloc (.cells (List.replicate 8 (Value.int .u8 0)).toArray 5)) w.heap.size 5 (bvs (told 64 (List.replicate 8 0) (ks.take 0))).toArray := by
      have e : (List.replicate 8 (Value.int .u8 0)).toArray = (bvs (told 64 (List.replicate 8 0) (ks.take 0))).toArray := by
        rw [List.take_zero]
        show _ = (bvs (List.replicate 8 0)).toArray
        unfold bvs
        rw [List.map_replicate]
        rfl
      rw [← e]
      exact Blk.new w _ _
    have b0 : Below w.heap.size w (w.alloc (.cells (List.replicate 8 (Value.int .u8 0)).toArray 5)) := (Below.refl _ _).alloc (Nat.le_refl _) _
    replace k0 := Lib.hid k0
    replace h8 := Lib.hid h8
    rw [hr]
    replace hr := Lib.hid hr
    go_enter Tryd.func9, Tryd.ntmps9
    go_wp2
    clear hmk
    go_loopw [5] (fun i wr => ∃ k : Nat, k ≤ n ∧ i = .int .i64 (k : Int) ∧ Blk wr w.heap.size 5 (bvs (told 64 (List.replicate 8 0) (ks.take k))).toArray ∧ Below w.heap.size w wr) (fun i _ => n - (intOf i).toNat)
    case atStart => exact ⟨0, by omega, rfl, k0.out, b0⟩
    case round =>
      clear b0 k0
      obtain ⟨k, hk, rfl, hrow, hbel⟩ := hrel
      obtain ⟨wo, rfl⟩ : ∃ wo : World, wo = wr := ⟨_, rfl⟩
      by_cases hlt : k < n
      · obtain ⟨b, off, rfl, hq, hcell⟩ := (hb.below hbel).at_ (k := k) (by rw [hn.out]; exact hlt)
        have hsz := hs.out _ (List.getElem_mem (show k < ks.length by rw [hn.out]; exact hlt))
        obtain ⟨key, hkey⟩ : ∃ key, ks[k]'(by rw [hn.out]; exact hlt) = key := ⟨_, rfl⟩
        rw [hkey] at hcell hsz
        have htake : ks.take (k + 1) = ks.take k ++ [key] := by rw [List.take_succ_eq_append_getElem (by rw [hn.out]; exact hlt), hkey]
        obtain ⟨cur, hcur⟩ : ∃ cur, told 64 (List.replicate 8 0) (ks.take k) = cur := ⟨_, rfl⟩
        have hcl : cur.length = 8 := by rw [← hcur, told_length, List.length_replicate]
        have hnext : told 64 (List.replicate 8 0) (ks.take (k + 1)) = (places (more 0 (text key)) 64).foldl setBit cur := by rw [htake, told_snoc, hcur]
        rw [hcur] at hrow
        have hfl : ∀ ps : List Nat, (ps.foldl setBit cur).length = 8 := fun ps => by rw [foldl_length, hcl]
        have pr := fun W => refPlaces_any W 64 (by omega) (by omega) key (text key) rfl key.size rfl hsz
        have hplt : ∀ j, place (more 0 (text key)) 64 j < 64 := fun j => place_lt _ _ _ (by omega)
        obtain ⟨P, hP⟩ : ∃ P, places (more 0 (text key)) 64 = P := ⟨_, rfl⟩
        obtain ⟨pl, hpl⟩ : ∃ pl, place (more 0 (text key)) 64 = pl := ⟨_, rfl⟩
        have hPl : P.length = 6 := by rw [← hP]; exact places_length _ _
        have hPg : ∀ j (h : j < P.length), P[j] = pl j := fun j h => by subst hP; subst hpl; simp [places]
        rw [hP] at hnext
        simp only [hP] at pr
        simp only [hpl] at hplt
        replace pr := Lib.hid pr
        replace hkey := Lib.hid hkey
        replace htake := Lib.hid htake
        replace hcur := Lib.hid hcur
        replace hcl := Lib.hid hcl
        replace hnext := Lib.hid hnext
        replace hfl := Lib.hid hfl
        replace hP := Lib.hid hP
        replace hpl := Lib.hid hpl
        replace hPl := Lib.hid hPl
        replace hPg := Lib.hid hPg
        replace hplt := Lib.hid hplt
        go_wp2_with fail
        refine (pr.out _).mono ?_
        clear pr
        rintro _ w1 ⟨v, rfl, hown, hb1⟩
        obtain ⟨A6, c6, rfl⟩ := own_slice hown
        have hrow1 := hrow.below hb1 hrow.lt
        have hbel1 := hbel.trans (hb1.mono hbel.size)
        have hgl := hrow.lt
        clear hcell hrow
        go_wp2_with fail
        go_loopw [7] (fun j wr => ∃ m : Nat, m ≤ 6 ∧ j = .int .i64 (m : Int) ∧ Blk wr w.heap.size 5 (bvs ((P.take m).foldl setBit cur)).toArray ∧ wr.ownsRow wo.heap.size 3 1 (.slice A6 6 c6) 6 (nvs P) ∧ Below w.heap.size w wr) (fun j _ => 6 - (intOf j).toNat)
        case atStart => exact ⟨0, by omega, rfl, hrow1, hown, hbel1⟩
        case round =>
          clear hrow1 hown hbel1 hb1
          obtain ⟨m, hm, rfl, hrx, hown, hbel⟩ := hrel
          by_cases hlm : m < 6
          · have hrd := Rd.of_own hown
            obtain ⟨g6, off6, rfl, hq6, hc6⟩ := hrd.at_ hlm
            obtain ⟨x, hx⟩ : ∃ x, pl m = x := ⟨_, rfl⟩
            have hPm : P[m]'(by rw [hPl.out]; exact hlm) = x := by rw [hPg.out m (by rw [hPl.out]; exact hlm), hx]
            have hck := hc6 m (.int .i64 (x : Int)) (by simp [nvs, hPl.out, hlm, hPm])
            have hxM : x < 64 := by rw [← hx]; exact hplt.out m
            obtain ⟨q, hq8⟩ : ∃ q, x / 8 = q := ⟨_, rfl⟩
            obtain ⟨r, hr8⟩ : ∃ r, x % 8 = r := ⟨_, rfl⟩
            have hqB : q < 8 := by omega
            have hr7 : r < 8 := by omega
            have hqi : (x : Int) / 8 = (q : Int) := by omega
            have hri : (x : Int) % 8 = (r : Int) := by omega
            obtain ⟨L, hL⟩ : ∃ L, (P.take m).foldl setBit cur = L := ⟨_, rfl⟩
            have hLl : L.length = 8 := by rw [← hL]; exact hfl.out _
            have hset : (P.take (m + 1)).foldl setBit cur = setBit L x := by rw [List.take_succ_eq_append_getElem (by rw [hPl.out]; exact hlm), List.foldl_append, hL, hPm]; rfl
            rw [hL] at hrx
            obtain ⟨y, hye⟩ : ∃ y, (L[q]'(by omega)).toNat = y := ⟨_, rfl⟩
            have hy : y < 256 := by rw [← hye]; exact (L[q]'(by omega)).toNat_lt
            have hrc : wr.cell? ⟨w.heap.size, q, none⟩ = some (.int .u8 (y : Int)) := by
              rw [hrx.cell, List.getElem?_toArray, bvs_get (by omega), ← hye]
              rfl
            have hrf := hrx.frozen q
            have hp256 : 2 ^ r < 256 := by rw [← hr8]; exact pow_lt256 x
            have hor : (bvs L).toArray.setIfInBounds q (.int .u8 ((y ||| 2 ^ r : Nat) : Int)) = (bvs (setBit L x)).toArray := by
              have e : y ||| 2 ^ r = (L[q]'(by omega) ||| UInt8.ofNat (2 ^ r)).toNat := by rw [UInt8.toNat_or, UInt8.toNat_ofNat', Nat.mod_eq_of_lt hp256, hye]
              have hget : L.getD q 0 = L[q]'(by omega) := by simp [List.getD, show q < L.length by omega]
              rw [e, bvs_set]
              unfold setBit
              rw [hq8, hr8, hget]
            obtain ⟨t, ht⟩ : ∃ t, 2 ^ r = t := ⟨_, rfl⟩
            rw [ht] at hor hp256
            have hqt : (x : Int).tdiv 8 = (q : Int) := by rw [Int.tdiv_eq_ediv_of_nonneg (by omega)]; exact hqi
            have htm : (x : Int).tmod 8 = (r : Int) := by rw [Int.tmod_eq_emod_of_nonneg (by omega)]; exact hri
            have h2r : (2 : Int) ^ r % 256 = (t : Int) := by
              rw [show ((2 : Int) ^ r) = ((2 ^ r : Nat) : Int) by simp, ht]
              omega
            have hbo : bits .or .u8 (y : Int) ((2 : Int) ^ r % 256) = ((y ||| t : Nat) : Int) := by rw [h2r]; exact u8_or_nat y t hy hp256
            obtain ⟨z, hz⟩ : ∃ z, y ||| t = z := ⟨_, rfl⟩
            rw [hz] at hor hbo
            replace hz := Lib.hid hz
            replace hbo := Lib.hid hbo
            clear h2r
            replace ht := Lib.hid ht
            replace hset := Lib.hid hset
            replace hor := Lib.hid hor
            replace hL := Lib.hid hL
            replace hLl := Lib.hid hLl
            replace hye := Lib.hid hye
            replace hq8 := Lib.hid hq8
            replace hr8 := Lib.hid hr8
            replace hx := Lib.hid hx
            replace hPm := Lib.hid hPm
            have hq0 : (0 : Int) ≤ (q : Int) := by omega
            have hqb : (q : Int) < 8 := by omega
            have hw8 : IntKind.i64.wrap (q : Int) = (q : Int) := by rw [IntKind.wrap_i64]; omega
            have hw9 : IntKind.i64.wrap (r : Int) = (r : Int) := by rw [IntKind.wrap_i64]; omega
            clear hc6 hrd
            go_wp2_with fail
            refine still_tail 22 hfol (by kernel_rfl) ?_
            simp only [List.take_succ_cons, List.take_zero, List.drop_succ_cons, List.drop_zero]
            iterate 22 still_step
            refine wpStill_nil ?_
            clear hqi hri htm hqt
            go_wp2
            rw [hbo.out]
            go_roundw
            case rel => exact ⟨m + 1, by omega, by go_num, by rw [hset.out, ← hor.out]; exact hrx.store q _, own_far hown hgl q _, hbel.drew.setCell (Nat.le_refl _) _⟩
            case measure => simp [intOf]; omega
          · obtain rfl : m = 6 := by omega
            rw [List.take_of_length_le (by rw [hPl.out]; omega), ← hnext.out] at hrx
            go_wp2
            go_roundw
            case rel => exact ⟨k + 1, by omega, by go_num, hrx, hbel⟩
            case measure => simp [intOf]; omega
      · have hkn : k = n := by omega
        have hfin : bvs (told 64 (List.replicate 8 0) (ks.take k)) ++ [Value.int .u8 6] = bvs (ofP ks) := by
          unfold ofP
          rw [List.take_of_length_le (by rw [hn.out]; omega), hn.out, hr.out, bvs_append]
          rfl
        have hcl : (told 64 (List.replicate 8 0) (ks.take k)).length = 8 := by rw [told_length, List.length_replicate]
        have hown : wo.ownsRow w.heap.size 5 1 (.slice (some ⟨w.heap.size, 0, none⟩) 8 8) 8 (bvs (told 64 (List.replicate 8 0) (ks.take k))) :=
          ⟨by rw [bvs_length, hcl], .inr ⟨w.heap.size, 8, _, rfl, Nat.le_refl _, hrow, Nat.le_refl _, by unfold maxLen; omega, by rw [List.size_toArray, bvs_length, hcl], by rw [List.take_of_length_le (by rw [bvs_length, hcl]; omega)]⟩⟩
        replace hfin := Lib.hid hfin
        replace hcl := Lib.hid hcl
        clear hkn
        go_wp2_with (first | (at_builtin; refine wpList_app _ rfl (.tmp 58) (.tmp 59) rfl Tryd.underlying26 info_u8 rfl (by omega) (hown.alloc (.cells #[.int .u8 6] 5)) rfl _ 1 1 (Rd.one wo 5 (.int .u8 6)) rfl (oneCell_one rfl) (by unfold maxLen; omega) (by omega) (by have := hbel.size; simp; omega) ?_; intro v2 w2 hown2 hgrow2 _) | fail)
        have b2 : Below w.heap.size w w2 := below_app (hbel.alloc hbel.size _) (hown.alloc _) (Nat.le_refl _) (by have := hbel.size; simp; omega) hgrow2
        rw [hfin.out] at hown2
        go_ret
        exact ⟨_, rfl, hown2, b2⟩
  · have hr : room n = (10 * n + 7) / 8 := by unfold room; omega
    obtain ⟨B, hB⟩ : ∃ B, (10 * n + 7) / 8 = B := ⟨_, rfl⟩
    rw [hB] at hr
    have hB8 : 8 ≤ B ∧ B ≤ 200000 := by omega
    have hBi : (10 * (n : Int) + 7) / 8 = (B : Int) := by omega
    have d1 : decide ((10 * (n : Int) + 7) / 8 < 8) = false := decide_eq_false (by omega)
    obtain ⟨M, hM⟩ : ∃ M, 8 * B = M := ⟨_, rfl⟩
    have hM0 : 0 < M := by omega
    have hMB : M ≤ 1600000 := by omega
    have hM8 := Lib.hid hM
    clear hM
    have hB0 : 8 ≤ B := hB8.1
    have hB1 : B ≤ 200000 := hB8.2
    have hMi : 8 * (B : Int) = (M : Int) := by have := hM8.out; omega
    replace hB := Lib.hid hB
    have hBi' := Lib.hid hBi
    clear hBi
    have hmk := fun w => make_one (P := Tryd.prog) Tryd.underlying26 info_u8 rfl B ((10 * (n : Int) + 7) / 8) (by have := hBi'.out; omega) (by omega) (by omega) w
    have k0 : Blk (w.alloc (.cells (List.replicate B (Value.int .u8 0)).toArray 5)) w.heap.size 5 (bvs (told M (List.replicate B 0) (ks.take 0))).toArray := by
      have e : (List.replicate B (Value.int .u8 0)).toArray = (bvs (told M (List.replicate B 0) (ks.take 0))).toArray := by
        rw [List.take_zero]
        show _ = (bvs (List.replicate B 0)).toArray
        unfold bvs
        rw [List.map_replicate]
        rfl
      rw [← e]
      exact Blk.new w _ _
    have b0 : Below w.heap.size w (w.alloc (.cells (List.replicate B (Value.int .u8 0)).toArray 5)) := (Below.refl _ _).alloc (Nat.le_refl _) _
    replace k0 := Lib.hid k0
    replace h8 := Lib.hid h8
    rw [hr]
    replace hr := Lib.hid hr
    go_enter Tryd.func9, Tryd.ntmps9
    go_wp2
    clear hmk
    simp only [hBi'.out]
    go_loopw [5] (fun i wr => ∃ k : Nat, k ≤ n ∧ i = .int .i64 (k : Int) ∧ Blk wr w.heap.size 5 (bvs (told M (List.replicate B 0) (ks.take k))).toArray ∧ Below w.heap.size w wr) (fun i _ => n - (intOf i).toNat)
    case atStart => exact ⟨0, by omega, rfl, k0.out, b0⟩
    case round =>
      clear b0 k0
      obtain ⟨k, hk, rfl, hrow, hbel⟩ := hrel
      obtain ⟨wo, rfl⟩ : ∃ wo : World, wo = wr := ⟨_, rfl⟩
      by_cases hlt : k < n
      · obtain ⟨b, off, rfl, hq, hcell⟩ := (hb.below hbel).at_ (k := k) (by rw [hn.out]; exact hlt)
        have hsz := hs.out _ (List.getElem_mem (show k < ks.length by rw [hn.out]; exact hlt))
        obtain ⟨key, hkey⟩ : ∃ key, ks[k]'(by rw [hn.out]; exact hlt) = key := ⟨_, rfl⟩
        rw [hkey] at hcell hsz
        have htake : ks.take (k + 1) = ks.take k ++ [key] := by rw [List.take_succ_eq_append_getElem (by rw [hn.out]; exact hlt), hkey]
        obtain ⟨cur, hcur⟩ : ∃ cur, told M (List.replicate B 0) (ks.take k) = cur := ⟨_, rfl⟩
        have hcl : cur.length = B := by rw [← hcur, told_length, List.length_replicate]
        have hnext : told M (List.replicate B 0) (ks.take (k + 1)) = (places (more 0 (text key)) M).foldl setBit cur := by rw [htake, told_snoc, hcur]
        rw [hcur] at hrow
        have hfl : ∀ ps : List Nat, (ps.foldl setBit cur).length = B := fun ps => by rw [foldl_length, hcl]
        have pr := fun W => refPlaces_any W M (by omega) (by omega) key (text key) rfl key.size rfl hsz
        have hplt : ∀ j, place (more 0 (text key)) M j < M := fun j => place_lt _ _ _ (by omega)
        obtain ⟨P, hP⟩ : ∃ P, places (more 0 (text key)) M = P := ⟨_, rfl⟩
        obtain ⟨pl, hpl⟩ : ∃ pl, place (more 0 (text key)) M = pl := ⟨_, rfl⟩
        have hPl : P.length = 6 := by rw [← hP]; exact places_length _ _
        have hPg : ∀ j (h : j < P.length), P[j] = pl j := fun j h => by subst hP; subst hpl; simp [places]
        rw [hP] at hnext
        simp only [hP] at pr
        simp only [hpl] at hplt
        replace pr := Lib.hid pr
        replace hkey := Lib.hid hkey
        replace htake := Lib.hid htake
        replace hcur := Lib.hid hcur
        replace hcl := Lib.hid hcl
        replace hnext := Lib.hid hnext
        replace hfl := Lib.hid hfl
        replace hP := Lib.hid hP
        replace hpl := Lib.hid hpl
        replace hPl := Lib.hid hPl
        replace hPg := Lib.hid hPg
        replace hplt := Lib.hid hplt
        go_wp2_with fail
        refine (pr.out _).mono ?_
        clear pr
        rintro _ w1 ⟨v, rfl, hown, hb1⟩
        obtain ⟨A6, c6, rfl⟩ := own_slice hown
        have hrow1 := hrow.below hb1 hrow.lt
        have hbel1 := hbel.trans (hb1.mono hbel.size)
        have hgl := hrow.lt
        clear hcell hrow
        go_wp2_with fail
        go_loopw [7] (fun j wr => ∃ m : Nat, m ≤ 6 ∧ j = .int .i64 (m : Int) ∧ Blk wr w.heap.size 5 (bvs ((P.take m).foldl setBit cur)).toArray ∧ wr.ownsRow wo.heap.size 3 1 (.slice A6 6 c6) 6 (nvs P) ∧ Below w.heap.size w wr) (fun j _ => 6 - (intOf j).toNat)
        case atStart => exact ⟨0, by omega, rfl, hrow1, hown, hbel1⟩
        case round =>
          clear hrow1 hown hbel1 hb1
          obtain ⟨m, hm, rfl, hrx, hown, hbel⟩ := hrel
          by_cases hlm : m < 6
          · have hrd := Rd.of_own hown
            obtain ⟨g6, off6, rfl, hq6, hc6⟩ := hrd.at_ hlm
            obtain ⟨x, hx⟩ : ∃ x, pl m = x := ⟨_, rfl⟩
            have hPm : P[m]'(by rw [hPl.out]; exact hlm) = x := by rw [hPg.out m (by rw [hPl.out]; exact hlm), hx]
            have hck := hc6 m (.int .i64 (x : Int)) (by simp [nvs, hPl.out, hlm, hPm])
            have hxM : x < M := by rw [← hx]; exact hplt.out m
            obtain ⟨q, hq8⟩ : ∃ q, x / 8 = q := ⟨_, rfl⟩
            obtain ⟨r, hr8⟩ : ∃ r, x % 8 = r := ⟨_, rfl⟩
            have hqB : q < B := by have := hM8.out; omega
            have hr7 : r < 8 := by omega
            have hqi : (x : Int) / 8 = (q : Int) := by omega
            have hri : (x : Int) % 8 = (r : Int) := by omega
            obtain ⟨L, hL⟩ : ∃ L, (P.take m).foldl setBit cur = L := ⟨_, rfl⟩
            have hLl : L.length = B := by rw [← hL]; exact hfl.out _
            have hset : (P.take (m + 1)).foldl setBit cur = setBit L x := by rw [List.take_succ_eq_append_getElem (by rw [hPl.out]; exact hlm), List.foldl_append, hL, hPm]; rfl
            rw [hL] at hrx
            obtain ⟨y, hye⟩ : ∃ y, (L[q]'(by omega)).toNat = y := ⟨_, rfl⟩
            have hy : y < 256 := by rw [← hye]; exact (L[q]'(by omega)).toNat_lt
            have hrc : wr.cell? ⟨w.heap.size, q, none⟩ = some (.int .u8 (y : Int)) := by
              rw [hrx.cell, List.getElem?_toArray, bvs_get (by omega), ← hye]
              rfl
            have hrf := hrx.frozen q
            have hp256 : 2 ^ r < 256 := by rw [← hr8]; exact pow_lt256 x
            have hor : (bvs L).toArray.setIfInBounds q (.int .u8 ((y ||| 2 ^ r : Nat) : Int)) = (bvs (setBit L x)).toArray := by
              have e : y ||| 2 ^ r = (L[q]'(by omega) ||| UInt8.ofNat (2 ^ r)).toNat := by rw [UInt8.toNat_or, UInt8.toNat_ofNat', Nat.mod_eq_of_lt hp256, hye]
              have hget : L.getD q 0 = L[q]'(by omega) := by simp [List.getD, show q < L.length by omega]
              rw [e, bvs_set]
              unfold setBit
              rw [hq8, hr8, hget]
            obtain ⟨t, ht⟩ : ∃ t, 2 ^ r = t := ⟨_, rfl⟩
            rw [ht] at hor hp256
            have hqt : (x : Int).tdiv 8 = (q : Int) := by rw [Int.tdiv_eq_ediv_of_nonneg (by omega)]; exact hqi
            have htm : (x : Int).tmod 8 = (r : Int) := by rw [Int.tmod_eq_emod_of_nonneg (by omega)]; exact hri
            have h2r : (2 : Int) ^ r % 256 = (t : Int) := by
              rw [show ((2 : Int) ^ r) = ((2 ^ r : Nat) : Int) by simp, ht]
              omega
            have hbo : bits .or .u8 (y : Int) ((2 : Int) ^ r % 256) = ((y ||| t : Nat) : Int) := by rw [h2r]; exact u8_or_nat y t hy hp256
            obtain ⟨z, hz⟩ : ∃ z, y ||| t = z := ⟨_, rfl⟩
            rw [hz] at hor hbo
            replace hz := Lib.hid hz
            replace hbo := Lib.hid hbo
            clear h2r
            replace ht := Lib.hid ht
            replace hset := Lib.hid hset
            replace hor := Lib.hid hor
            replace hL := Lib.hid hL
            replace hLl := Lib.hid hLl
            replace hye := Lib.hid hye
            replace hq8 := Lib.hid hq8
            replace hr8 := Lib.hid hr8
            replace hx := Lib.hid hx
            replace hPm := Lib.hid hPm
            have hq0 : (0 : Int) ≤ (q : Int) := by omega
            have hqb : (q : Int) < (B : Int) := by omega
            have hw8 : IntKind.i64.wrap (q : Int) = (q : Int) := by rw [IntKind.wrap_i64]; omega
            have hw9 : IntKind.i64.wrap (r : Int) = (r : Int) := by rw [IntKind.wrap_i64]; omega
            clear hc6 hrd
            go_wp2_with fail
            refine still_tail 22 hfol (by kernel_rfl) ?_
            simp only [List.take_succ_cons, List.take_zero, List.drop_succ_cons, List.drop_zero]
            iterate 22 still_step
            refine wpStill_nil ?_
            clear hqi hri htm hqt
            go_wp2
            rw [hbo.out]
            go_roundw
            case rel => exact ⟨m + 1, by omega, by go_num, by rw [hset.out, ← hor.out]; exact hrx.store q _, own_far hown hgl q _, hbel.drew.setCell (Nat.le_refl _) _⟩
            case measure => simp [intOf]; omega
          · obtain rfl : m = 6 := by omega
            rw [List.take_of_length_le (by rw [hPl.out]; omega), ← hnext.out] at hrx
            go_wp2
            go_roundw
            case rel => exact ⟨k + 1, by omega, by go_num, hrx, hbel⟩
            case measure => simp [intOf]; omega
      · have hkn : k = n := by omega
        have hfin : bvs (told M (List.replicate B 0) (ks.take k)) ++ [Value.int .u8 6] = bvs (ofP ks) := by
          unfold ofP
          rw [List.take_of_length_le (by rw [hn.out]; omega), hn.out, hr.out, hM8.out, bvs_append]
          rfl
        have hcl : (told M (List.replicate B 0) (ks.take k)).length = B := by rw [told_length, List.length_replicate]
        have hown : wo.ownsRow w.heap.size 5 1 (.slice (some ⟨w.heap.size, 0, none⟩) B B) B (bvs (told M (List.replicate B 0) (ks.take k))) :=
          ⟨by rw [bvs_length, hcl]; omega, .inr ⟨w.heap.size, B, _, rfl, Nat.le_refl _, hrow, Nat.le_refl _, by unfold maxLen; omega, by rw [List.size_toArray, bvs_length, hcl]; omega, by rw [List.take_of_length_le (by rw [bvs_length, hcl]; omega)]⟩⟩
        replace hfin := Lib.hid hfin
        replace hcl := Lib.hid hcl
        clear hkn
        go_wp2_with (first | (at_builtin; refine wpList_app _ rfl (.tmp 58) (.tmp 59) rfl Tryd.underlying26 info_u8 rfl (by omega) (hown.alloc (.cells #[.int .u8 6] 5)) rfl _ 1 1 (Rd.one wo 5 (.int .u8 6)) rfl (oneCell_one rfl) (by unfold maxLen; omega) (by omega) (by have := hbel.size; simp; omega) ?_; intro v2 w2 hown2 hgrow2 _) | fail)
        have b2 : Below w.heap.size w w2 := below_app (hbel.alloc hbel.size _) (hown.alloc _) (Nat.le_refl _) (by have := hbel.size; simp; omega) hgrow2
        rw [hfin.out] at hown2
        go_ret
        exact ⟨_, rfl, hown2, b2⟩
end Go.Proofs.YtebledknjfojlaaDoor
