/- What a filter has, one of the same length that has its bits, and others, has, too; one with no bit has no key; one with all has each: for every input, no condition. -/
import Derived.Test.YtebledknjfojlaaBloomLives
import Derived.Test.YtebledknjfojlaaLift
import Derived.Test.YtebledknjfojlaaApp
import Derived.StillTailTactics
import Derived.Deep.RegionLaw
import Derived.Laws.OwnMore
set_option linter.unusedSimpArgs false
set_option linter.unusedVariables false
namespace Go.Proofs.Ytebledknjfojlaa.lawBloomsMore
open Go Go.RowKit Herb Go.ChangeShapes Go.WideShapes Go.ChangeAt

def Z8 : Array Value := #[.int .u8 0, .int .u8 0, .int .u8 0, .int .u8 0, .int .u8 0, .int .u8 0, .int .u8 0, .int .u8 0]
theorem own8 (W : World) (B : Nat) (hB : B ≤ W.heap.size) : (W.alloc (.cells Z8 5)).ownsRow B 5 1 (.slice (some ⟨W.heap.size, 0, none⟩) 8 8) 8 (bvs (List.replicate 8 0)) :=
  World.ownsRow_lit (base := B) (e := 5) (size := 1) W Z8 8 hB (by unfold maxLen; omega) rfl
theorem own8b (W : World) (o : Obj) (B : Nat) (hB : B ≤ W.heap.size) : ((W.alloc o).alloc (.cells Z8 5)).ownsRow B 5 1 (.slice (some ⟨W.heap.size + 1, 0, none⟩) 8 8) 8 (bvs (List.replicate 8 0)) := by
  have h := own8 (W.alloc o) B (by simp; omega)
  rwa [World.size_alloc] at h
theorem one_alloc {W w' : World} {o : Obj} {row : Option Nat} (h : ((W.alloc o).alloc (.cells #[.int .u8 6] 5)).drew.grownBy w' row) (hr : row = some W.heap.size) : Rd w' 1 (some ⟨W.heap.size + 1, 0, none⟩) 1 [.int .u8 6] := by
  have h1 : Blk ((W.alloc o).alloc (.cells #[.int .u8 6] 5)).drew (W.heap.size + 1) 5 #[.int .u8 6] := by
    have := Blk.new (W.alloc o) 5 #[.int .u8 6]
    rwa [World.size_alloc] at this
  refine (h1.grown h (by rw [hr]; simp)).rd rfl (fun j u hu => by simpa using hu)
theorem one_alloc2 {W w' : World} {o : Obj} {row : Option Nat} (h : ((W.alloc (.cells #[.int .u8 6] 5)).alloc o).drew.grownBy w' row) (hr : row = some (W.heap.size + 1)) : Rd w' 1 (some ⟨W.heap.size, 0, none⟩) 1 [.int .u8 6] := by
  have h1 : Blk ((W.alloc (.cells #[.int .u8 6] 5)).alloc o).drew W.heap.size 5 #[.int .u8 6] := ((Blk.new W 5 #[.int .u8 6]).alloc o).drew
  refine (h1.grown h (by rw [hr]; simp)).rd rfl (fun j u hu => by simpa using hu)
theorem rd_bytes {w : World} {A : Option Addr} {n k : Nat} {l : List UInt8} (h : Bs w A l) (hn : l.length = n) (hk : k ≤ n) : Rd w 1 A k (bvs (l.take k)) := by
  have h1 := h.take k
  unfold Bs at h1
  rwa [List.length_take, hn, Nat.min_eq_left hk] at h1
theorem bs_of {W : World} {A : Option Addr} {n : Nat} {l : List UInt8} (h : Rd W 1 A n (bvs l)) (hn : l.length = n) : Bs W A l := by
  subst hn
  exact h
theorem bvs6 (l : List UInt8) : bvs l ++ [Value.int .u8 6] = bvs (l ++ [6]) := by simp [bvs, bv]
/-- The full filter while it is filled. -/
def fullL (q j : Nat) : List UInt8 := List.replicate j 255 ++ (List.replicate (q - j) 0 ++ [6])
theorem fullL_length (q j : Nat) (h : j ≤ q) : (fullL q j).length = q + 1 := by simp [fullL]; omega
theorem fullL_step (q j : Nat) (h : j < q) : (bvs (fullL q j)).set j (.int .u8 255) = bvs (fullL q (j + 1)) := by
  have e : (fullL q j).set j 255 = fullL q (j + 1) := by
    unfold fullL
    rw [List.set_append_right _ _ (by simp), List.length_replicate, Nat.sub_self, show q - j = (q - (j + 1)) + 1 by omega, List.replicate_succ, List.cons_append, List.set_cons_zero, List.replicate_succ', List.append_assoc]
    rfl
  rw [← e]
  unfold bvs bv
  rw [List.map_set]
  rfl
theorem fullL_zero (q : Nat) : fullL q 0 = List.replicate q 0 ++ [6] := by simp [fullL]
theorem fullL_end (q : Nat) : fullL q q = List.replicate q 255 ++ [6] := by simp [fullL]

set_option maxRecDepth 100000 in
set_option maxHeartbeats 3200000 in
theorem walk (w : World) (A : Option Addr) (c : Nat) (l : List UInt8) (hl : l.length ≤ 140737488355328) (hb : Bs w A l) (hlc : l.length ≤ c) (hc : c ≤ 140737488355328)
    (A' : Option Addr) (c' : Nat) (l' : List UInt8) (hl' : l'.length ≤ 140737488355328) (hb' : Bs w A' l') (s : ByteArray) (hs : s.size ≤ 140737488355328) :
    Calls Try.prog 6 #[.slice A l.length c, .slice A' l'.length c', .string s] w fun e w' => e = .returned (.bool true) ∧ Below w.heap.size w w' := by
  obtain ⟨n, hn⟩ : ∃ n, l.length = n := ⟨_, rfl⟩
  obtain ⟨n', hn'⟩ : ∃ n, l'.length = n := ⟨_, rfl⟩
  obtain ⟨z, hz⟩ : ∃ z, s.size = z := ⟨_, rfl⟩
  rw [hn] at hl hlc ⊢
  rw [hn'] at hl' ⊢
  rw [hz] at hs
  go_enter Try.func6, Try.ntmps6
  by_cases hbig : 5000 < n ∨ 5000 < n' ∨ 1000 < z
  · have fin : (5000 < n) ∨ (¬ 5000 < n ∧ 5000 < n') ∨ (¬ 5000 < n ∧ ¬ 5000 < n' ∧ 1000 < z) := by omega
    rcases fin with h | ⟨h0, h⟩ | ⟨h0, h1, h⟩
    · have d1 : decide ((5000 : Int) < (n : Int)) = true := decide_eq_true (by omega)
      go_wp2_with fail
      refine (lives_any w).mono ?_
      rintro e w1 ⟨rfl, hb1⟩
      go_wp2
      go_ret
      exact ⟨rfl, hb1⟩
    · have d1 : decide ((5000 : Int) < (n : Int)) = false := decide_eq_false (by omega)
      have d2 : decide ((5000 : Int) < (n' : Int)) = true := decide_eq_true (by omega)
      go_wp2_with fail
      refine (lives_any w).mono ?_
      rintro e w1 ⟨rfl, hb1⟩
      go_wp2
      go_ret
      exact ⟨rfl, hb1⟩
    · have d1 : decide ((5000 : Int) < (n : Int)) = false := decide_eq_false (by omega)
      have d2 : decide ((5000 : Int) < (n' : Int)) = false := decide_eq_false (by omega)
      have d3 : decide ((1000 : Int) < (z : Int)) = true := decide_eq_true (by omega)
      go_wp2_with fail
      refine (lives_any w).mono ?_
      rintro e w1 ⟨rfl, hb1⟩
      go_wp2
      go_ret
      exact ⟨rfl, hb1⟩
  · have d1 : decide ((5000 : Int) < (n : Int)) = false := decide_eq_false (by omega)
    have d2 : decide ((5000 : Int) < (n' : Int)) = false := decide_eq_false (by omega)
    have d3 : decide ((1000 : Int) < (z : Int)) = false := decide_eq_false (by omega)
    obtain ⟨Z, hZ⟩ : ∃ Z, List.zipWith (· ||| ·) l l' = Z := ⟨_, rfl⟩
    obtain ⟨m, hm⟩ : ∃ m, min n n' = m := ⟨_, rfl⟩
    have hZl : Z.length = m := by rw [← hZ, List.length_zipWith, hn, hn', hm]
    have hml : m ≤ n := by omega
    have hml' : m ≤ n' := by omega
    have hmx : m = n ∨ m = n' := by omega
    have hm5 : m ≤ 5000 := by omega
    replace hn := Lib.hid hn
    replace hn' := Lib.hid hn'
    replace hZ := Lib.hid hZ
    replace hZl := Lib.hid hZl
    have hz' := Lib.hid hz
    clear hbig hm
    go_wp2_with fail
    clear hz
    go_loopw [7, 8] (fun v i wr => ∃ k : Nat, k ≤ m ∧ i = .int .i64 (k : Int) ∧ wr.ownsRow w.heap.size 5 1 v k (bvs (Z.take k)) ∧ Below w.heap.size w wr) (fun _ i _ => m - (intOf i).toNat)
    case atStart => exact ⟨0, by omega, rfl, by simpa [bvs] using World.ownsRow_nil w w.heap.size 5 1, Below.refl _ _⟩
    case round =>
      obtain ⟨k, hk, rfl, hown, hbel⟩ := hrel
      by_cases hlt : k < m
      · obtain ⟨b, off, rfl, hq, hcell⟩ := (hb.below hbel).at_ (k := k) (by rw [hn.out]; omega)
        have hck := hcell k (by rw [hn.out]; omega)
        obtain ⟨b', off', rfl, hq', hcell'⟩ := (hb'.below hbel).at_ (k := k) (by rw [hn'.out]; omega)
        have hck' := hcell' k (by rw [hn'.out]; omega)
        have e1 : decide (k < n) = true := decide_eq_true (by omega)
        have e2 : decide (k < n') = true := decide_eq_true (by omega)
        have k0 : (0 : Int) ≤ (k : Int) := by omega
        have k1 : (k : Int) < (n : Int) := by omega
        have k2 : (k : Int) < (n' : Int) := by omega
        have hx := (l[k]'(by rw [hn.out]; omega)).toNat_lt
        have hy := (l'[k]'(by rw [hn'.out]; omega)).toNat_lt
        have hor := u8_or_nat _ _ hx hy
        have hzk : bvs (Z.take (k + 1)) = bvs (Z.take k) ++ [Value.int .u8 (((l[k]'(by rw [hn.out]; omega)).toNat ||| (l'[k]'(by rw [hn'.out]; omega)).toNat : Nat) : Int)] := by
          rw [List.take_succ_eq_append_getElem (by rw [hZl.out]; exact hlt), bvs_append]
          congr 1
          simp only [← hZ.out, List.getElem_zipWith, bvs, bv, List.map_cons, List.map_nil, UInt8.toNat_or]
        generalize (l[k]'(by rw [hn.out]; omega)).toNat = x at *
        generalize (l'[k]'(by rw [hn'.out]; omega)).toNat = y at *
        obtain ⟨t, ht⟩ : ∃ t, x ||| y = t := ⟨_, rfl⟩
        rw [ht] at hor hzk
        replace hzk := Lib.hid hzk
        clear hcell hcell' ht
        go_wp2_with fail
        go_region_law (refine step_app _ (by rfl) _ _ (by rfl) Try.underlying22 info_u8 (by rfl) (by omega) (hown.drew.alloc (.cells #[.int .u8 (t : Int)] 5)) (by rfl) _ 1 1 (Rd.one wr.drew 5 (.int .u8 (t : Int))) (by rfl) (oneCell_one rfl) (by unfold maxLen; omega) (by omega) (by have := hbel.size; simp; omega) ?_; intro v2 w2 hown2 hgrow2 hlie2)
        all_goals
          have hb2 := below_app (hbel.drew.alloc hbel.size (.cells #[.int .u8 (t : Int)] 5)) (hown.drew.alloc _) (Nat.le_refl _) (by have := hbel.size; simp; omega) hgrow2
          rw [← hzk.out] at hown2
          clear hown hgrow2 hlie2
          go_wp2
          go_roundw
          case rel => exact ⟨k + 1, by omega, by go_num, hown2, hb2⟩
          case measure => simp [intOf]; omega
      · have hkm : k = m := by omega
        obtain ⟨wo, rfl⟩ : ∃ wo : World, wo = wr := ⟨_, rfl⟩
        have htk : Z.take k = Z := List.take_of_length_le (by rw [hZl.out]; omega)
        rw [htk] at hown
        subst hkm
        clear htk hlt
        have ends : decide (k < n) = false ∨ (decide (k < n) = true ∧ decide (k < n') = false) := by
          by_cases h : k < n
          · exact .inr ⟨decide_eq_true h, decide_eq_false (by omega)⟩
          · exact .inl (decide_eq_false h)
        obtain ⟨Aa, ca, rfl⟩ := own_slice hown
        have hall := Rd.of_own hown
        have hmk := fun W => make_one (P := Try.prog) Try.underlying22 info_u8 rfl (k + 8) ((k : Int) + 8) (by omega) (by omega) (by omega) W
        have own0 : (wo.alloc (.cells (Array.replicate (k + 8) (Value.int .u8 0)) 5)).ownsRow wo.heap.size 5 1 (.slice (some ⟨wo.heap.size, 0, none⟩) (k + 8) (k + 8)) (k + 8) (bvs (List.replicate (k + 8) 0)) := by
          have h := World.ownsRow_lit (base := wo.heap.size) (e := 5) (size := 1) wo (Array.replicate (k + 8) (Value.int .u8 0)) (k + 8) (Nat.le_refl _) (by unfold maxLen; omega) (by simp)
          simpa [bvs, bv] using h
        have r6 : Rd ((wo.alloc (.cells (Array.replicate (k + 8) (Value.int .u8 0)) 5)).alloc (.cells #[.int .u8 6] 5)) 1 (some ⟨wo.heap.size + 1, 0, none⟩) 1 [.int .u8 6] := by
          have h := Rd.one (wo.alloc (.cells (Array.replicate (k + 8) (Value.int .u8 0)) 5)) 5 (.int .u8 6)
          rwa [World.size_alloc] at h
        obtain ⟨n9, hn9⟩ : ∃ n9, k + 8 + 1 = n9 := ⟨_, rfl⟩
        have hn9' : n9 ≤ 5009 := by omega
        have hn9p : 0 < n9 := by omega
        have hone : bvs (List.replicate (k + 8) 0) ++ [Value.int .u8 6] = bvs (List.replicate (k + 8) 0 ++ [6]) := by simp [bvs, bv]
        have one9 := bvs_one (List.replicate (k + 8) 0 ++ [6])
        replace hn9 := Lib.hid hn9
        replace hone := Lib.hid hone
        clear hown
        rcases ends with e1 | ⟨e1, e2⟩
        all_goals
          go_wp2_with (first
            | (at_builtin; refine wpList_app _ rfl (.tmp 55) (.tmp 56) rfl Try.underlying22 info_u8 rfl (by omega) (own0.alloc (.cells #[.int .u8 6] 5)) rfl _ 1 1 r6 rfl (oneCell_one rfl) (by unfold maxLen; omega) (by omega) (by simp; omega) ?_; intro v9 w9 hown9 hgrow9 hlie9; have b9 : Below wo.heap.size wo w9 := below_app (((Below.refl _ _).alloc (Nat.le_refl _) _).alloc (by simp) _) (own0.alloc _) (Nat.le_refl _) (by simp; omega) hgrow9; rw [hn9.out, hone.out] at hown9; obtain ⟨A9, c9, rfl⟩ := own_slice hown9; have hr9 := Rd.of_own hown9)
            | (at_builtin; refine wpList_app _ rfl (.const (.slice none 0 0)) (.tmp 58) rfl Try.underlying22 info_u8 rfl (by omega) (World.ownsRow_nil _ w9.heap.size 5 1) rfl _ n9 c9 hr9 rfl one9 (by unfold maxLen; omega) (by omega) (Nat.le_refl _) ?_; intro v10 w10 hown10 hgrow10 hlie10; have b10 : Below w9.heap.size w9 w10 := below_app (Below.refl _ _) (World.ownsRow_nil w9 w9.heap.size 5 1) (Nat.le_refl _) (Nat.le_refl _) hgrow10; rw [Nat.zero_add, List.nil_append] at hown10; obtain ⟨g10, c10, rfl, hg10, hg10'⟩ := hown10.form hn9p))
          have hf10 : w10.ownsRow w9.heap.size 5 1 (.slice (some ⟨g10, 0, none⟩) n9 c10) n9 (bvs (fullL (k + 8) 0)) := by rw [fullL_zero]; exact hown10
          have hn9a : n9 ≤ k + 9 ∧ k + 9 ≤ n9 := by have := hn9.out; omega
          have hfl := fun j (h : j ≤ k + 8) => fullL_length (k + 8) j h
          have hfs := fullL_step (k + 8)
          replace hfl := Lib.hid hfl
          replace hfs := Lib.hid hfs
          clear hown10 hgrow10 hlie10 hown9 hgrow9 hlie9 own0 r6 hmk one9
          go_loopw [11] (fun i wq => ∃ j : Nat, j ≤ k + 8 ∧ i = .int .i64 (j : Int) ∧ wq.ownsRow w9.heap.size 5 1 (.slice (some ⟨g10, 0, none⟩) n9 c10) n9 (bvs (fullL (k + 8) j)) ∧ Below w9.heap.size w9 wq) (fun i _ => k + 8 - (intOf i).toNat)
          case atStart => exact ⟨0, by omega, rfl, hf10, b10⟩
          case round =>
            obtain ⟨wq, rfl⟩ : ∃ wq : World, wq = wr := ⟨_, rfl⟩
            obtain ⟨j, hj, rfl, hfr, bq⟩ := hrel
            by_cases hjl : j < k + 8
            · have hcj := hfr.cellAt j (by omega)
              have hfz := hfr.frozenAt j
              obtain ⟨u, hu⟩ : ∃ u, (bvs (fullL (k + 8) j))[j]? = some u := ⟨_, List.getElem?_eq_getElem (by rw [bvs_length, hfl.out j hj]; omega)⟩
              rw [hu] at hcj
              have hst := (hfr.stored j (.int .u8 255)).1
              rw [hfs.out j hjl] at hst
              have bq2 := bq.setCell (p := ⟨g10, j, none⟩) hg10 (.int .u8 255)
              go_wp2
              go_roundw
              case rel => exact ⟨j + 1, by omega, by go_num, hst, bq2⟩
              case measure => simp [intOf]; omega
            · obtain rfl : j = k + 8 := by omega
              rw [fullL_end] at hfr
              have hrf := Rd.of_own hfr
              have cq : Below w.heap.size w wq := hbel.trans ((b9.trans (bq.mono b9.size)).mono hbel.size)
              have hall2 := (hall.below b9).below bq
              have hr92 := hr9.below bq
              have hb2 := hb.below cq
              have hmk8 := fun W => make_one (P := Try.prog) Try.underlying22 info_u8 rfl 8 8 (by omega) (by omega) (by omega) W
              clear hall hr9 bq hfr hb
              have hkc : k ≤ c := by omega
              have hkc' : (k : Int) ≤ (c : Int) := by omega
              have hk0 : (0 : Int) ≤ (k : Int) := by omega
              have hrA := rd_bytes hb2 hn.out hml
              have one1 := bvs_one (l.take k)
              have one2 := bvs_one Z
              have hnk : 8 + k ≤ 6000 := by omega
              go_wp2_with fail
              go_region_law (first
                | (refine step_app _ (by rfl) (.tmp 70) (.tmp 74) (by rfl) Try.underlying22 info_u8 (by rfl) (by omega) (own8 wq wq.heap.size (Nat.le_refl _)).drew (by rfl) A k c (hrA.alloc _).drew (by rfl) one1 (by unfold maxLen; omega) (by omega) (by simp) ?_; intro v11 w11 hown11 hgrow11 _; have b11 : Below wq.heap.size wq w11 := below_app (((Below.refl _ _).alloc (Nat.le_refl _) _).drew) (own8 wq wq.heap.size (Nat.le_refl _)).drew (Nat.le_refl _) (by simp) hgrow11)
                | (refine step_app _ (by rfl) (.tmp 70) (.tmp 74) (by rfl) Try.underlying22 info_u8 (by rfl) (by omega) (((own8 wq wq.heap.size (Nat.le_refl _)).alloc (.cells #[.int .u8 6] 5)).drew) (by rfl) A k c ((hrA.alloc _).alloc _).drew (by rfl) one1 (by unfold maxLen; omega) (by omega) (by simp; omega) ?_; intro v11 w11 hown11 hgrow11 _; have b11 : Below wq.heap.size wq w11 := below_app ((((Below.refl _ _).alloc (Nat.le_refl _) _).alloc (by simp) _).drew) (((own8 wq wq.heap.size (Nat.le_refl _)).alloc (.cells #[.int .u8 6] 5)).drew) (Nat.le_refl _) (by simp; omega) hgrow11; have r11 := one_alloc hgrow11 rfl)
                | (refine step_app _ (by rfl) (.tmp 70) (.tmp 74) (by rfl) Try.underlying22 info_u8 (by rfl) (by omega) (own8b wq (.cells #[.int .u8 6] 5) wq.heap.size (Nat.le_refl _)).drew (by rfl) A k c ((hrA.alloc _).alloc _).drew (by rfl) one1 (by unfold maxLen; omega) (by omega) (by simp; omega) ?_; intro v11 w11 hown11 hgrow11 _; have b11 : Below wq.heap.size wq w11 := below_app ((((Below.refl _ _).alloc (Nat.le_refl _) _).alloc (by simp) _).drew) (own8b wq (.cells #[.int .u8 6] 5) wq.heap.size (Nat.le_refl _)).drew (Nat.le_refl _) (by simp; omega) hgrow11; have r11 := one_alloc2 hgrow11 rfl)
                | (refine step_app _ (by rfl) (.tmp 75) (.tmp 76) (by rfl) Try.underlying22 info_u8 (by rfl) (by omega) hown11 (by rfl) _ 1 1 r11 (by rfl) (oneCell_one rfl) (by unfold maxLen; omega) (by omega) b11.size ?_; intro v12 w12 hown12 hgrow12 _; have b12 : Below wq.heap.size wq w12 := below_app b11 hown11 (Nat.le_refl _) b11.size hgrow12)
                | (refine step_app _ (by rfl) (.tmp 75) (.tmp 76) (by rfl) Try.underlying22 info_u8 (by rfl) (by omega) (hown11.alloc (.cells #[.int .u8 6] 5)) (by rfl) _ 1 1 (Rd.one w11 5 (.int .u8 6)) (by rfl) (oneCell_one rfl) (by unfold maxLen; omega) (by omega) (by have := b11.size; simp; omega) ?_; intro v12 w12 hown12 hgrow12 _; have b12 : Below wq.heap.size wq w12 := below_app (b11.alloc b11.size _) (hown11.alloc _) (Nat.le_refl _) (by have := b11.size; simp; omega) hgrow12))
              all_goals
                clear hb2 hrA one1
                obtain ⟨A1, c1, rfl⟩ := own_slice hown12
                rw [← bvs_append, bvs6] at hown12
                have ho := Rd.of_own hown12
                obtain ⟨nn, hnn⟩ : ∃ nn, 8 + k + 1 = nn := ⟨_, rfl⟩
                have hall3 := hall2.below b12
                have hr93 := hr92.below b12
                have hrf3 := hrf.below b12
                have c12 := cq.trans (b12.mono cq.size)
                have hnn9 : nn ≤ 5009 := by omega
                rw [hnn] at ho ⊢
                replace hnn := Lib.hid hnn
                clear hown12 hgrow12 hown11 hgrow11 b11 b12 hall2 hr92 hrf cq
                go_wp2_with (first
                  | (at_builtin; refine wpList_app _ rfl (.tmp 78) (.tmp 79) rfl Try.underlying22 info_u8 rfl (by omega) (own8 w12 w12.heap.size (Nat.le_refl _)) rfl Aa k ca (hall3.alloc _) rfl one2 (by unfold maxLen; omega) (by omega) (by simp) ?_; intro v13 w13 hown13 hgrow13 hlie13; have b13 : Below w12.heap.size w12 w13 := below_app ((Below.refl _ _).alloc (Nat.le_refl _) _) (own8 w12 w12.heap.size (Nat.le_refl _)) (Nat.le_refl _) (by simp) hgrow13)
                  | (at_builtin; refine wpList_app _ rfl (.tmp 80) (.tmp 81) rfl Try.underlying22 info_u8 rfl (by omega) (hown13.alloc (.cells #[.int .u8 6] 5)) rfl _ 1 1 (Rd.one w13 5 (.int .u8 6)) rfl (oneCell_one rfl) (by unfold maxLen; omega) (by omega) (by have := b13.size; simp; omega) ?_; intro v14 w14 hown14 hgrow14 hlie14; have b14 : Below w12.heap.size w12 w14 := below_app (b13.alloc b13.size _) (hown13.alloc _) (Nat.le_refl _) (by have := b13.size; simp; omega) hgrow14; rw [hnn.out, ← bvs_append, bvs6] at hown14; obtain ⟨A2, c2, rfl⟩ := own_slice hown14; have ht14 := Rd.of_own hown14))
                have c14 := c12.trans (b14.mono c12.size)
                have ho14 := ho.below b14
                have hr14 := hr93.below b14
                have hf14 := hrf3.below b14
                clear hall3 hr93 hrf3 ho hown13 hgrow13 hlie13 b13 hown14 hgrow14 hlie14 c12 b14
                have hlt : (l.take k).length = k := by rw [List.length_take, hn.out]; omega
                have hlt' : (l'.take k).length = k := by rw [List.length_take, hn'.out]; omega
                have hZk : List.zipWith (· ||| ·) (l.take k) (l'.take k) = Z := by
                  rw [← List.take_zipWith, hZ.out, List.take_of_length_le (by rw [hZl.out]; omega)]
                have hmore := hasP_more (l.take k) (l'.take k) (text s) k (by rw [hlt, hlt'])
                rw [hZk] at hmore
                have hnone := hasP_none (k + 8) (by omega) (text s)
                have hfull := hasP_full (k + 8) (by omega) (text s)
                have l1 : (List.replicate 8 (0 : UInt8) ++ l.take k ++ [6]).length = nn := by rw [List.length_append, List.length_append, hlt, ← hnn.out]; simp
                have l2 : (List.replicate 8 (0 : UInt8) ++ Z ++ [6]).length = nn := by rw [List.length_append, List.length_append, hZl.out, ← hnn.out]; simp
                have l3 : (List.replicate (k + 8) (0 : UInt8) ++ [6]).length = n9 := by rw [List.length_append, List.length_replicate, ← hn9.out]; simp
                have l4 : (List.replicate (k + 8) (255 : UInt8) ++ [6]).length = n9 := by rw [List.length_append, List.length_replicate, ← hn9.out]; simp
                have p1 := has_any w14 A1 nn c1 _ l1 (by omega) (bs_of ho14 l1) s (text s) rfl z hz'.out (by omega)
                have p2 := fun W (b : Below w14.heap.size w14 W) => has_any W A2 nn c2 _ l2 (by omega) ((bs_of ht14 l2).below b) s (text s) rfl z hz'.out (by omega)
                have p3 := fun W (b : Below w14.heap.size w14 W) => has_any W A9 n9 c9 _ l3 (by omega) ((bs_of hr14 l3).below b) s (text s) rfl z hz'.out (by omega)
                have p4 := fun W (b : Below w14.heap.size w14 W) => has_any W (some ⟨g10, 0, none⟩) n9 c10 _ l4 (by omega) ((bs_of hf14 l4).below b) s (text s) rfl z hz'.out (by omega)
                rw [hnone] at p3
                rw [hfull] at p4
                replace p2 := Lib.hid p2
                replace p3 := Lib.hid p3
                replace p4 := Lib.hid p4
                clear l1 l2 l3 l4 hlt hlt' hZk hnone hfull ho14 hr14 hf14 ht14 one2 hb'
                rcases hH : hasP (List.replicate 8 0 ++ l.take k ++ [6]) (text s) with _ | _
                · rw [hH] at p1
                  clear hH hmore
                  refine p1.mono ?_
                  rintro _ w15 ⟨rfl, b15⟩
                  go_wp2_with fail
                  refine (p3.out w15 b15).mono ?_
                  rintro _ w16 ⟨rfl, b16⟩
                  replace b16 := b15.trans (b16.mono b15.size)
                  go_wp2_with fail
                  refine (p4.out w16 b16).mono ?_
                  rintro _ w17 ⟨rfl, b17⟩
                  replace b17 := b16.trans (b17.mono b16.size)
                  go_wp2_with fail
                  refine (lives_any w17).mono ?_
                  rintro _ w18 ⟨rfl, b18⟩
                  replace b18 := c14.trans ((b17.trans (b18.mono b17.size)).mono c14.size)
                  go_wp2
                  go_ret
                  exact ⟨rfl, b18⟩
                · rw [hH] at p1
                  have hmo := hmore hH
                  replace hmo := Lib.hid hmo
                  clear hH hmore
                  refine p1.mono ?_
                  rintro _ w15 ⟨rfl, b15⟩
                  have p2' := p2.out w15 b15
                  rw [hmo.out] at p2'
                  replace p2' := Lib.hid p2'
                  go_wp2_with fail
                  refine p2'.out.mono ?_
                  rintro _ w15' ⟨rfl, b15'⟩
                  replace b15 := b15.trans (b15'.mono b15.size)
                  clear b15'
                  go_wp2_with fail
                  refine (p3.out _ b15).mono ?_
                  rintro _ w16 ⟨rfl, b16⟩
                  replace b16 := b15.trans (b16.mono b15.size)
                  go_wp2_with fail
                  refine (p4.out w16 b16).mono ?_
                  rintro _ w17 ⟨rfl, b17⟩
                  replace b17 := b16.trans (b17.mono b16.size)
                  go_wp2_with fail
                  refine (lives_any w17).mono ?_
                  rintro _ w18 ⟨rfl, b18⟩
                  replace b18 := c14.trans ((b17.trans (b18.mono b17.size)).mono c14.size)
                  go_wp2
                  go_ret
                  exact ⟨rfl, b18⟩

/-! ### from the walk to the statement (by tail.py) -/
set_option maxRecDepth 100000 in
theorem lifted (os : Os) (started : os.Started) (H : Type) (enc : TypeId × Value → H) :
    ReturnsInHanded {} Try.checked os 6 .any (Rows.bloomsMoreSpec.pre6 enc Try.prog Try.f6 Rows.bloomsMoreRow.domain false) (Rows.bloomsMoreSpec.post enc Try.prog Try.f6 false true false false) := by
  refine lifted_of (C := Try.checked) (tb := 4) (n := 3) (by kernel_rfl) started (by kernel_rfl) Try.func6 (by kernel_rfl) (by kernel_rfl) rfl (by kernel_rfl) Try.underlying4 (by kernel_rfl)
    (fun ds hd => by match ds, hd with | [d1, d2, d3], _ => exact ⟨rfl, rfl, rfl⟩)
    (ChangeSpec.witness6 (enc := enc) (C := Try.checked) false ⟨#[], #[.slice none 0 0, .slice none 0 0, .string ByteArray.empty], []⟩ 8 (by kernel_rfl) (by kernel_rfl) (by kernel_rfl) (by kernel_rfl)) ?_
  intro W base args ds before hval hA hsz
  rw [Try.params6] at hA hval hsz
  obtain ⟨v0, vs0, d0, ds0, p0, q0, rfl, rfl, rfl, h0, r0⟩ := trodAll_cons hA
  obtain ⟨v1, vs1, d1, ds1, p1, q1, rfl, rfl, rfl, h1, r1⟩ := trodAll_cons r0
  obtain ⟨v2, vs2, d2, ds2, p2, q2, rfl, rfl, rfl, h2, r2⟩ := trodAll_cons r1
  obtain ⟨rfl, rfl, rfl⟩ := trodAll_nil r2
  obtain ⟨A0, c0, l0, rfl, hb0, hlc0, _, hcap0⟩ := open_bytes Try.underlying22 Try.underlying5 (by kernel_rfl) (by kernel_rfl) (hval 0 _ _ rfl rfl) h0
  have hc0 := hcap0 hsz 0 rfl rfl
  obtain ⟨A1, c1, l1, rfl, hb1, hlc1, _, hcap1⟩ := open_bytes Try.underlying22 Try.underlying5 (by kernel_rfl) (by kernel_rfl) (hval 1 _ _ rfl rfl) h1
  have hc1 := hcap1 hsz 1 rfl rfl
  obtain ⟨s2, rfl, hcap2⟩ := open_str Try.underlying9 (hval 2 _ _ rfl rfl) h2
  have hs2 := hcap2 hsz 2 rfl rfl
  exact walk W A0 c0 l0 (by have := reachBytes_lt; omega) hb0 hlc0 (by have := reachBytes_lt; omega) A1 c1 l1 (by have := reachBytes_lt; omega) hb1 s2 (by have := reachBytes_lt; omega)

theorem over : Rows.bloomsMoreRow.holds Try.pinned (OpenSpec.ofChange Rows.bloomsMoreSpec) :=
  OpenClaim.holds_of_wide 6 Try.f6 rfl rfl rfl rfl rfl rfl rfl ⟨rfl, rfl, rfl, rfl, rfl⟩ rfl rfl rfl rfl rfl (by kernel_rfl) Try.func6 (by kernel_rfl)
    (of_decide_eq_true (by kernel_rfl)) (by unfold Func.isWrapper; first | (rw [if_pos (by decide +kernel)]; kernel_rfl) | (rw [if_neg (by decide +kernel)]; exact ⟨rfl, rfl⟩))
    (fun os started H enc _ => lifted os started H enc)

theorem proved : Rows.BloomsMoreSaid := over
end Go.Proofs.Ytebledknjfojlaa.lawBloomsMore
