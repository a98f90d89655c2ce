/- The document's list (herbariumref08): plain, and in memory; walks of New, Len, Put, From. -/
import Derived.Test.YtidnhcningkcaaaDoorSkTop
import Derived.Test.YtidnhcningkcaaaDoorSkOrd
import Derived.Test.YtidnhcningkcaaaDoorApp
import Derived.Test.YtidnhcningkcaaaDoorStr
import Derived.Deep.RegionHeld3
import Derived.Deep.RegionWith
import Derived.BigQuiet
set_option linter.unusedSimpArgs false
set_option linter.unusedVariables false
namespace Herb
open Go Go.RowKit
/-- Entries as they lie. -/
def entC (M : List (List UInt8 × Int)) : List Value := M.flatMap fun x => [.string ⟨x.1.toArray⟩, .int .i64 x.2]
theorem entC_length (M : List (List UInt8 × Int)) : (entC M).length = M.length * 2 := by
  unfold entC
  induction M with
  | nil => rfl
  | cons x l ih => rw [List.flatMap_cons, List.length_append, ih, List.length_cons]; simp; omega
theorem entC_append (a b : List (List UInt8 × Int)) : entC (a ++ b) = entC a ++ entC b := by unfold entC; rw [List.flatMap_append]
theorem entC_get : ∀ {M : List (List UInt8 × Int)} {i : Nat} (h : i < M.length) {j : Nat}, j < 2 → (entC M)[i * 2 + j]? = [Value.string ⟨M[i].1.toArray⟩, .int .i64 M[i].2][j]?
  | x :: l, 0, _, j, hj => by
    have e : entC (x :: l) = [.string ⟨x.1.toArray⟩, .int .i64 x.2] ++ entC l := rfl
    rw [e, List.getElem?_append_left (by simp; omega)]
    simp
  | x :: l, i + 1, h, j, hj => by
    have ih := entC_get (M := l) (i := i) (by simpa using h) hj
    have e : entC (x :: l) = [.string ⟨x.1.toArray⟩, .int .i64 x.2] ++ entC l := rfl
    rw [e, List.getElem?_append_right (by simp; omega), show (i + 1) * 2 + j - [Value.string ⟨x.1.toArray⟩, .int .i64 x.2].length = i * 2 + j by simp; omega]
    exact ih
theorem entC_one (M : List (List UInt8 × Int)) : ∀ u ∈ entC M, u.oneCell' = true := by
  intro u hu
  obtain ⟨c, _, h⟩ := List.mem_flatMap.1 hu
  simp only [List.mem_cons, List.not_mem_nil, or_false] at h
  rcases h with rfl | rfl <;> rfl
/-- How many keys stand ahead. -/
def atK (M : List (List UInt8 × Int)) (K : List UInt8) : Nat := (M.takeWhile (fun x => less x.1 K)).length
theorem atK_le (M : List (List UInt8 × Int)) (K : List UInt8) : atK M K ≤ M.length := (List.takeWhile_sublist _).length_le
theorem atK_lt : ∀ {M : List (List UInt8 × Int)} {K : List UInt8} {i : Nat} (h : i < M.length), i < atK M K → less M[i].1 K = true
  | x :: M, K, i, h, hi => by
    unfold atK at hi
    cases hx : less x.1 K
    · rw [List.takeWhile_cons_of_neg (by simp [hx])] at hi
      simp at hi
    · rw [List.takeWhile_cons_of_pos (by simp [hx]), List.length_cons] at hi
      cases i with
      | zero => exact hx
      | succ i => exact atK_lt (M := M) (by simpa using h) (by unfold atK; omega)
theorem atK_at : ∀ {M : List (List UInt8 × Int)} {K : List UInt8} (h : atK M K < M.length), less M[atK M K].1 K = false
  | [], K, h => by simp at h
  | x :: M, K, h => by
    cases hx : less x.1 K
    · have e : atK (x :: M) K = 0 := by unfold atK; rw [List.takeWhile_cons_of_neg (by simp [hx])]; rfl
      simp only [e, List.getElem_cons_zero]
      exact hx
    · have e : atK (x :: M) K = atK M K + 1 := by unfold atK; rw [List.takeWhile_cons_of_pos (by simp [hx])]; rfl
      have h' : atK M K < M.length := by rw [e] at h; simpa using h
      simp only [e, List.getElem_cons_succ]
      exact atK_at h'
theorem insM_at (M : List (List UInt8 × Int)) (K : List UInt8) (z : Int) : insM M K z = M.take (atK M K) ++ (K, z) :: M.drop (atK M K) := by
  have h : M.takeWhile (fun x => less x.1 K) ++ M.dropWhile (fun x => less x.1 K) = M := List.takeWhile_append_dropWhile
  have h1 : M.take (atK M K) = M.takeWhile (fun x => less x.1 K) := by
    have h2 := congrArg (List.take (atK M K)) h
    rw [← h2]
    exact List.take_left' rfl
  have h3 : M.drop (atK M K) = M.dropWhile (fun x => less x.1 K) := by
    have h2 := congrArg (List.drop (atK M K)) h
    rw [← h2]
    exact List.drop_left' rfl
  rw [h1, h3]
  rfl
/-- What a round's list is. -/
def partK (M : List (List UInt8 × Int)) (K : List UInt8) (z : Int) (i : Nat) : List (List UInt8 × Int) := if i ≤ atK M K then M.take i else M.take (atK M K) ++ (K, z) :: (M.take i).drop (atK M K)
theorem partK_0 (M : List (List UInt8 × Int)) (K : List UInt8) (z : Int) : partK M K z 0 = [] := by unfold partK; rw [if_pos (by omega)]; rfl
theorem partK_lt {M : List (List UInt8 × Int)} {K : List UInt8} {z : Int} {i : Nat} (h : i < M.length) (hi : i < atK M K) : partK M K z (i + 1) = partK M K z i ++ [M[i]] := by
  unfold partK
  rw [if_pos (by omega), if_pos (by omega), List.take_succ_eq_append_getElem h]
theorem partK_eq {M : List (List UInt8 × Int)} {K : List UInt8} {z : Int} {i : Nat} (h : i < M.length) (hi : i = atK M K) : partK M K z (i + 1) = (partK M K z i ++ [(K, z)]) ++ [M[i]] := by
  unfold partK
  rw [if_neg (by omega), if_pos (by omega), List.take_succ_eq_append_getElem h, ← hi, List.drop_append_of_le_length (by rw [List.length_take]; omega), List.drop_of_length_le (by rw [List.length_take]; omega)]
  simp
theorem partK_gt {M : List (List UInt8 × Int)} {K : List UInt8} {z : Int} {i : Nat} (h : i < M.length) (hi : atK M K < i) : partK M K z (i + 1) = partK M K z i ++ [M[i]] := by
  unfold partK
  rw [if_neg (by omega), if_neg (by omega), List.take_succ_eq_append_getElem h, List.drop_append_of_le_length (by rw [List.length_take]; omega)]
  simp
theorem partK_end {M : List (List UInt8 × Int)} {K : List UInt8} {z : Int} (h : atK M K < M.length) : partK M K z M.length = insM M K z := by
  unfold partK
  rw [if_neg (by omega), List.take_length, insM_at]
theorem partK_end2 {M : List (List UInt8 × Int)} {K : List UInt8} {z : Int} (h : ¬ atK M K < M.length) : partK M K z M.length ++ [(K, z)] = insM M K z := by
  have := atK_le M K
  unfold partK
  rw [if_pos (by omega), List.take_length, insM_at, List.take_of_length_le (by omega), List.drop_of_length_le (by omega)]
theorem partK_len (M : List (List UInt8 × Int)) (K : List UInt8) (z : Int) (i : Nat) (h : i ≤ M.length) : (partK M K z i).length ≤ i + 1 := by
  unfold partK
  split
  · rw [List.length_take]; omega
  · rw [List.length_append, List.length_cons, List.length_drop, List.length_take, List.length_take]; omega
theorem hasM_of {M : List (List UInt8 × Int)} {K : List UInt8} {i : Nat} (h : i < M.length) (e : M[i].1 = K) : hasM M K = true := by
  unfold hasM
  rw [List.any_eq_true]
  exact ⟨_, List.getElem_mem h, by simpa using e⟩
theorem hasM_no {M : List (List UInt8 × Int)} {K : List UInt8} (h : ∀ i (hi : i < M.length), M[i].1 ≠ K) : hasM M K = false := by
  unfold hasM
  rw [List.any_eq_false]
  intro x hx e
  obtain ⟨i, hi, rfl⟩ := List.getElem_of_mem hx
  exact h i hi (by simpa using e)
/-- What is told from a key on. -/
theorem filter_from {M : List (List UInt8 × Int)} (hM : Rises M) (K : List UInt8) : M.filter (fun x => !less x.1 K) = fromM M K := by
  obtain ⟨T, hT, hTl⟩ := from_split M K
  have hQ := dropWhile_not hM (K := K)
  have h : M.filter (fun x => !less x.1 K) = (T ++ fromM M K).filter (fun x => !less x.1 K) := congrArg _ hT
  rw [h, List.filter_append, List.filter_eq_nil_iff.2 (fun x hx => by rw [hTl x hx]; simp), List.filter_eq_self.2 (fun x hx => by rw [hQ x hx]; rfl)]
  rfl
end Herb
namespace Go.Proofs.YtidnhcningkcaaaDoor
open Go Go.RowKit Herb
structure RefK (w : World) (base r : Nat) (A : Option Addr) (c : Nat) (M : List (List UInt8 × Int)) : Prop where
  box : Blk w r 48 #[.slice A M.length c]
  row : w.ownsRow base 55 2 (.slice A M.length c) M.length (entC M)
  rb : base ≤ r
theorem entInfo : (Tryd.prog.info? 55).map (fun i => (i.zero, i.size, i.bytes)) = some (some (.agg #[.string ⟨#[]⟩, .int .i64 0]), 2, 24) := by kernel_rfl
section
variable {w w' : World} {base r c : Nat} {A : Option Addr} {M : List (List UInt8 × Int)}
theorem RefK.below (h : RefK w base r A c M) (hb : Below w.heap.size w w') : RefK w' base r A c M :=
  ⟨h.box.below hb h.box.lt, h.row.kept (row := none) ⟨hb.os, hb.tape, hb.output, hb.size, fun k hk _ => hb.block k hk⟩ (by cases (Value.slice A M.length c).ownBlock <;> simp), h.rb⟩
end
theorem knew_any (w : World) : Calls Tryd.prog 6 #[] w fun e w' => e = .returned (.pointer (some ⟨w.heap.size, 0, none⟩)) ∧ RefK w' w.heap.size w.heap.size none 0 [] ∧ Below w.heap.size w w' := by
  go_enter Tryd.func6, Tryd.ntmps6
  go_wp2
  go_ret
  exact ⟨rfl, ⟨Blk.new w _ _, World.ownsRow_nil _ _ _ _, Nat.le_refl _⟩, (Below.refl _ _).alloc (Nat.le_refl _) _⟩
theorem klen_any (w : World) (base r c : Nat) (A : Option Addr) (M : List (List UInt8 × Int)) (h : RefK w base r A c M) (n : Nat) (hn : M.length = n) : Calls Tryd.prog 12 #[.pointer (some ⟨r, 0, none⟩)] w fun e w' => e = .returned (.int .i64 (n : Int)) ∧ w = w' := by
  have cb := h.box.cell 0
  rw [hn] at cb
  go_enter Tryd.func12, Tryd.ntmps12
  go_wp2
  go_ret
  exact ⟨rfl, rfl⟩
/-- An entry's cells in a list that is read. -/
theorem entC_at {w : World} {A : Option Addr} {n : Nat} {M : List (List UInt8 × Int)} (h : Rd w 2 A n (entC M)) (hn : M.length = n) {i : Nat} (hi : i < n) : ∃ b off, A = some ⟨b, off, none⟩ ∧ w.cell? ⟨b, off + i * 2, none⟩ = some (.string ⟨(M[i]'(by omega)).1.toArray⟩) ∧ w.cell? ⟨b, off + i * 2 + 1, none⟩ = some (.int .i64 (M[i]'(by omega)).2) := by
  obtain ⟨b, off, e, hb, hc⟩ := Rd.at_ h hi
  have hl : i < M.length := by omega
  exact ⟨b, off, e, hc (i * 2 + 0) _ (entC_get hl (j := 0) (by omega)), hc (i * 2 + 1) _ (entC_get hl (j := 1) (by omega))⟩
theorem Rd.ent (w : World) (s : ByteArray) (z : Int) : Rd (w.alloc (.cells #[.string s, .int .i64 z] 55)) 2 (some ⟨w.heap.size, 0, none⟩) 1 [.string s, .int .i64 z] :=
  (Blk.new w _ _).rd rfl (fun j u hu => by simpa using hu)

set_option maxRecDepth 100000 in
set_option maxHeartbeats 1600000 in
theorem kfrom_any (w : World) (base r c : Nat) (A : Option Addr) (M : List (List UInt8 × Int)) (h : RefK w base r A c M) (hL : M.length ≤ 100000) (K : List UInt8) (B : Option Addr) (m d : Nat) (hm : K.length = m) (hb : Bs w B K) :
    Calls Tryd.prog 22 #[.pointer (some ⟨r, 0, none⟩), .slice B m d] w fun e w' => ∃ v, e = .returned v ∧ w'.ownsRow w.heap.size 55 2 v (M.filter (fun x => !less x.1 K)).length (entC (M.filter (fun x => !less x.1 K))) ∧ Below w.heap.size w w' := by
  obtain ⟨n, hn⟩ : ∃ n, M.length = n := ⟨_, rfl⟩
  obtain ⟨p, hp⟩ : ∃ p : List UInt8 × Int → Bool, p = fun x => !less x.1 K := ⟨_, rfl⟩
  rw [← hp]
  have hbx := h.box
  have hF : Rd w 2 A M.length (entC M) := Rd.of_own h.row
  have hlt := h.box.lt
  rw [hn] at hbx hL hF
  clear h
  obtain ⟨sK, hsK⟩ : ∃ sK : ByteArray, (⟨K.toArray⟩ : ByteArray) = sK := ⟨_, rfl⟩
  have hcv : ∀ W, Below w.heap.size w W → (convert 23 9 (.slice B m d)).run Tryd.prog W = .ok (.string sK) W := fun W hW => by
    rw [← hsK]
    exact run_str (hb.below hW) _ _ _ Tryd.underlying23 Tryd.underlying5 Tryd.underlying9 m d hm
  have hKl : sK.toList = K := by rw [← hsK, ba_toList]
  replace hp := Lib.hid hp
  replace hn := Lib.hid hn
  replace hm := Lib.hid hm
  replace hsK := Lib.hid hsK
  replace hKl := Lib.hid hKl
  replace hcv := Lib.hid hcv
  go_enter Tryd.func22, Tryd.ntmps22
  go_wp2
  go_loopw [5, 6] (fun v i wr => ∃ k : Nat, k ≤ n ∧ i = .int .i64 (k : Int) ∧ wr.ownsRow w.heap.size 55 2 v ((M.take k).filter p).length (entC ((M.take k).filter p)) ∧ Below w.heap.size w wr) (fun _ i _ => n - (intOf i).toNat)
  case atStart => exact ⟨0, by omega, rfl, World.ownsRow_nil _ _ _ _, Below.refl _ _⟩
  case round =>
    obtain ⟨k, hk, rfl, hrow, hB⟩ := hrel
    have cb := (hbx.below hB hlt).cell 0
    by_cases hkn : k < n
    · have hkL : k < M.length := by have := hn.out; omega
      obtain ⟨b, off, rfl, c0, c1⟩ := entC_at (hF.below hB) hn.out hkn
      have hts : (M.take (k + 1)).filter p = (M.take k).filter p ++ (if p M[k] then [M[k]] else []) := by
        rw [List.take_succ_eq_append_getElem hkL, List.filter_append]
        congr 1
        cases hpk : p M[k] <;> simp [hpk]
      have hpk : p M[k] = !less M[k].1 K := by rw [hp.out]
      have hfl : ((M.take k).filter p).length ≤ k := Nat.le_trans (List.length_filter_le _ _) (List.length_take_le _ _)
      obtain ⟨x, hx⟩ : ∃ x, M[k] = x := ⟨_, rfl⟩
      rw [hx] at c0 c1 hts hpk
      obtain ⟨xk, xn⟩ := x
      simp only at c0 c1 hpk
      obtain ⟨sx, hsx⟩ : ∃ sx : ByteArray, (⟨xk.toArray⟩ : ByteArray) = sx := ⟨_, rfl⟩
      have hxl : sx.toList = xk := by rw [← hsx, ba_toList]
      rw [hsx] at c0
      have mkS : ∀ W, Below wr.heap.size wr W → (fun W => W.cell? ⟨r, 0, none⟩ = some (.slice (some ⟨b, off, none⟩) n c) ∧ W.cell? ⟨b, off + k * 2, none⟩ = some (.string sx) ∧ (convert 23 9 (.slice B m d)).run Tryd.prog W = .ok (.string sK) W ∧ Below wr.heap.size wr W) W := fun W hW => by
        have hWw := hB.trans (hW.mono hB.size)
        obtain ⟨b', off', he, d0, d1⟩ := entC_at (hF.below hWw) hn.out hkn
        cases he
        rw [hx] at d0
        simp only [hsx] at d0
        exact ⟨(hbx.below hWw hlt).cell 0, d0, hcv.out W hWw, hW⟩
      have s1 := mkS wr.drew (Below.refl _ wr).drew
      have s0 := mkS wr (Below.refl _ wr)
      have hdk : decide (k < n) = true := by simpa using hkn
      generalize (M.take k).filter p = xs at hrow hfl hts
      have hB2 := hB.drew
      have hrow2 : wr.drew.ownsRow w.heap.size 55 2 _ xs.length (entC xs) := hrow
      have hrow3 : (wr.alloc (.cells #[.string sx, .int .i64 xn] 55)).drew.ownsRow w.heap.size 55 2 _ xs.length (entC xs) := hrow.alloc _
      have hB3 : Below w.heap.size w (wr.alloc (.cells #[.string sx, .int .i64 xn] 55)).drew := (hB.alloc hB.size _).drew
      have hR : Rd (wr.alloc (.cells #[.string sx, .int .i64 xn] 55)).drew 2 (some ⟨wr.heap.size, 0, none⟩) 1 (entC [(xk, xn)]) := by
        have := Rd.ent wr sx xn
        have e : entC [(xk, xn)] = [.string sx, .int .i64 xn] := by rw [← hsx]; rfl
        rw [e]
        exact this
      have hcn : wr.drew.cell? ⟨b, off + k * 2, none⟩ = some (.string sx) ∧ wr.drew.cell? ⟨b, off + k * 2 + 1, none⟩ = some (.int .i64 xn) := ⟨c0, c1⟩
      replace hcn := Lib.hid hcn
      replace hts := Lib.hid hts
      replace hx := Lib.hid hx
      replace hsx := Lib.hid hsx
      replace mkS := Lib.hid mkS
      cases hl : less xk K
      · have hpt : p (xk, xn) = true := by rw [hpk, hl]; rfl
        have hl2 : Op.bytesLess sx.toList sK.toList = false := by rw [hxl, hKl.out]; exact hl
        have yes : ∀ (v2 : Value) (w2 : World), w2.ownsRow w.heap.size 55 2 v2 (xs.length + 1) (entC xs ++ entC [(xk, xn)]) → w2.ownsRow w.heap.size 55 2 v2 ((M.take (k + 1)).filter p).length (entC ((M.take (k + 1)).filter p)) := by
          intro v2 w2 ho
          rw [hts.out, if_pos hpt, List.length_append, entC_append]
          exact ho
        replace yes := Lib.hid yes
        clear hpt hpk hl hxl
        go_wp2
        go_region_held3 (fun W => W.cell? ⟨r, 0, none⟩ = some (.slice (some ⟨b, off, none⟩) n c) ∧ W.cell? ⟨b, off + k * 2, none⟩ = some (.string sx) ∧ (convert 23 9 (.slice B m d)).run Tryd.prog W = .ok (.string sK) W ∧ Below wr.heap.size wr W)
          (first | with_reducible exact s1 | with_reducible exact s0)
          (first | fail)
        obtain ⟨d0, d1⟩ := hcn.out
        have cb2 : wr.drew.cell? ⟨r, 0, none⟩ = some (.slice (some ⟨b, off, none⟩) n c) := cb
        go_wp2_with (at_builtin; refine wpList_app _ rfl (.tmp 27) (.tmp 35) rfl Tryd.underlying46 entInfo rfl (by decide) hrow3 rfl _ 1 1 hR rfl (entC_one [_]) (by unfold maxLen; omega) (by omega) hB3.size ?_; intro v2 w2 hown2 hgrow2 _; have b2 : Below w.heap.size w w2 := below_app hB3 hrow3 (Nat.le_refl _) hB3.size hgrow2)
        go_roundw
        case rel => exact ⟨k + 1, by omega, by go_num, yes.out _ _ hown2, b2⟩
        case measure => simp [intOf] <;> omega
      · have hpt : p (xk, xn) = false := by rw [hpk, hl]; rfl
        have hl2 : Op.bytesLess sx.toList sK.toList = true := by rw [hxl, hKl.out]; exact hl
        have hno : (M.take (k + 1)).filter p = xs := by rw [hts.out, hpt, if_neg (by simp), List.append_nil]
        replace hno := Lib.hid hno
        clear hpt hpk hl hxl
        go_wp2
        go_region_held3 (fun W => W.cell? ⟨r, 0, none⟩ = some (.slice (some ⟨b, off, none⟩) n c) ∧ W.cell? ⟨b, off + k * 2, none⟩ = some (.string sx) ∧ (convert 23 9 (.slice B m d)).run Tryd.prog W = .ok (.string sK) W ∧ Below wr.heap.size wr W)
          (first | with_reducible exact s1 | with_reducible exact s0)
          (first | fail)
        go_wp2
        go_roundw
        case rel => exact ⟨k + 1, by omega, by go_num, by rw [hno.out]; exact hrow2, hB2⟩
        case measure => simp [intOf] <;> omega
    · obtain rfl : k = n := by omega
      have hdk : decide (k < k) = false := by simp
      rw [List.take_of_length_le (by rw [hn.out]; omega)] at hrow
      go_wp2
      go_ret
      exact ⟨_, rfl, hrow, hB⟩

/-- The document's Put, plain. -/
def stepK (M : List (List UInt8 × Int)) (K : List UInt8) (z H : Int) : Int × List (List UInt8 × Int) := if H < 1 ∨ 8 < H then (1, M) else if hasM M K = true then (8, M) else (0, insM M K z)
theorem only_storeK {a w : World} {g : Nat} (h : a.grownBy w (some g)) {p : Addr} (hp : p.block = g) (u : Value) : a.grownBy (w.setCell p u) (some g) :=
  ⟨h.os, h.tape, h.output, by simpa [World.setCell] using h.size, fun i hi hne => (Below.heap_setCell w p u i (by
    rintro rfl
    exact hne (by rw [hp]))).trans (h.block i hi hne)⟩
theorem own_farK {w w' : World} {base n size g : Nat} {e : TypeId} {v : Value} {xs : List Value} (h : w.ownsRow base e size v n xs) (hg : w.grownBy w' (some g)) (hlt : g < base) : w'.ownsRow base e size v n xs :=
  h.kept hg (by
    cases hv : v.ownBlock with
    | none => exact .inl rfl
    | some k => exact .inr (fun e => by have := (h.lt k hv).1; injection e with e; omega))
/-- Its blocks. -/
def refKS (r : Nat) (A : Option Addr) (n c : Nat) : Nat → Prop := fun k => k = r ∨ (Value.slice A n c).ownBlock = some k
theorem refK_fin {w wz : World} {base r c c' m : Nat} {A A' : Option Addr} {M L : List (List UInt8 × Int)} (h : RefK w base r A c M) (hbase : base ≤ w.heap.size) (hz : Below w.heap.size w wz) (hl : L.length = m) (ho : wz.ownsRow w.heap.size 55 2 (.slice A' m c') m (entC L)) :
    RefK (wz.setCell ⟨r, 0, none⟩ (.slice A' m c')) base r A' c' L ∧ KeepBut (fun k => k = r) w (wz.setCell ⟨r, 0, none⟩ (.slice A' m c')) ∧ (∀ k, refKS r A' L.length c' k → refKS r A M.length c k ∨ w.heap.size ≤ k) := by
  subst hl
  have hlt := h.box.lt
  refine ⟨⟨?_, ?_, h.rb⟩, KeepBut.setCell (S := fun k => k = r) (p := ⟨r, 0, none⟩) (KeepBut.of_below hz) rfl _, fun k hk => ?_⟩
  · have hk := (h.box.below hz h.box.lt).store 0 (.slice A' L.length c')
    exact hk
  · exact (own_farK ho (only_storeK (World.grownBy.refl wz (some r)) (p := ⟨r, 0, none⟩) rfl _) hlt).mono hbase
  · rcases hk with rfl | hk
    · exact .inl (.inl rfl)
    · exact .inr (ho.lt k hk).1

set_option maxRecDepth 100000 in
set_option maxHeartbeats 6400000 in
theorem kput_any (w : World) (base r c : Nat) (A : Option Addr) (M : List (List UInt8 × Int)) (h : RefK w base r A c M) (hbase : base ≤ w.heap.size) (hL : M.length ≤ 1000) (K : List UInt8) (B : Option Addr) (m d : Nat) (hm : K.length = m) (hb : Bs w B K) (z H : Int) :
    Calls Tryd.prog 9 #[.pointer (some ⟨r, 0, none⟩), .slice B m d, .int .i64 z, .int .i64 H] w fun e w' => ∃ A' c', e = .returned (.int .i64 (stepK M K z H).1) ∧ RefK w' base r A' c' (stepK M K z H).2 ∧ KeepBut (fun k => k = r) w w' ∧ (∀ k, refKS r A' (stepK M K z H).2.length c' k → refKS r A M.length c k ∨ w.heap.size ≤ k) := by
  have same : ∀ w', Below w.heap.size w w' → ∃ A' c', RefK w' base r A' c' M ∧ KeepBut (fun k => k = r) w w' ∧ (∀ k, refKS r A' M.length c' k → refKS r A M.length c k ∨ w.heap.size ≤ k) := fun w' hb' =>
    ⟨A, c, h.below hb', KeepBut.of_below hb', fun k hk => .inl hk⟩
  replace same := Lib.hid same
  by_cases h2 : H < 1 ∨ 8 < H
  · have hR : stepK M K z H = (1, M) := by unfold stepK; rw [if_pos h2]
    rw [hR]
    replace hR := Lib.hid hR
    clear h hb
    go_enter Tryd.func9, Tryd.ntmps9
    by_cases h3 : H < 1
    · have d3 : decide (H < 1) = true := decide_eq_true h3
      go_wp2
      go_ret
      obtain ⟨A', c', q⟩ := same.out w (Below.refl _ _)
      first | exact ⟨A', c', rfl, q⟩ | exact ⟨rfl, A', c', q⟩
    · have d3 : decide (H < 1) = false := decide_eq_false h3
      have d4 : decide (8 < H) = true := decide_eq_true (by omega)
      go_wp2
      go_ret
      obtain ⟨A', c', q⟩ := same.out w (Below.refl _ _)
      first | exact ⟨A', c', rfl, q⟩ | exact ⟨rfl, A', c', q⟩
  have d3 : decide (H < 1) = false := decide_eq_false (by omega)
  have d4 : decide (8 < H) = false := decide_eq_false (by omega)
  obtain ⟨R, hR⟩ : ∃ R, stepK M K z H = R := ⟨_, rfl⟩
  rw [hR]
  have hRe : R = if hasM M K = true then (8, M) else (0, insM M K z) := by
    rw [← hR]
    unfold stepK
    rw [if_neg h2]
  clear hR h2
  obtain ⟨n, hn⟩ : ∃ n, M.length = n := ⟨_, rfl⟩
  obtain ⟨a, ha⟩ : ∃ a, atK M K = a := ⟨_, rfl⟩
  have hbx := h.box
  have hF : Rd w 2 A M.length (entC M) := Rd.of_own h.row
  have hlt := h.box.lt
  rw [hn] at hbx hL hF
  have hfin := fun wz A4 c4 (L : List (List UInt8 × Int)) m4 (hz : Below w.heap.size w wz) hl ho => refK_fin (w := w) (A' := A4) (c' := c4) (m := m4) (L := L) h hbase (wz := wz) hz hl ho
  replace hfin := Lib.hid hfin
  clear h
  obtain ⟨sK, hsK⟩ : ∃ sK : ByteArray, (⟨K.toArray⟩ : ByteArray) = sK := ⟨_, rfl⟩
  have hcv : ∀ W, Below w.heap.size w W → (convert 23 9 (.slice B m d)).run Tryd.prog W = .ok (.string sK) W := fun W hW => by
    rw [← hsK]
    exact run_str (hb.below hW) _ _ _ Tryd.underlying23 Tryd.underlying5 Tryd.underlying9 m d hm
  have hKl : sK.toList = K := by rw [← hsK, ba_toList]
  have eK : entC [(K, z)] = [.string sK, .int .i64 z] := by rw [← hsK]; rfl
  have oneK : ∀ u ∈ ([.string sK, .int .i64 z] : List Value), u.oneCell' = true := by intro u hu; simp at hu; rcases hu with rfl | rfl <;> rfl
  replace oneK := Lib.hid oneK
  replace hRe := Lib.hid hRe
  replace hn := Lib.hid hn
  replace ha := Lib.hid ha
  replace hm := Lib.hid hm
  replace hsK := Lib.hid hsK
  replace hKl := Lib.hid hKl
  replace hcv := Lib.hid hcv
  replace eK := Lib.hid eK
  go_enter Tryd.func9, Tryd.ntmps9
  go_wp2
  go_loopw [9, 10, 11] (fun v0 u0 i0 wr => ∃ k : Nat, k ≤ n ∧ i0 = .int .i64 (k : Int) ∧ u0 = .bool (decide (a < k)) ∧ wr.ownsRow w.heap.size 55 2 v0 (partK M K z k).length (entC (partK M K z k)) ∧ Hid (∀ j (hj : j < M.length), j < k → M[j].1 ≠ K) ∧ Below w.heap.size w wr) (fun _ _ i _ => n - (intOf i).toNat)
  case atStart => exact ⟨0, by omega, rfl, by simp, by rw [partK_0]; exact World.ownsRow_nil _ _ _ _, Lib.hid (fun j hj h => absurd h (by omega)), Below.refl _ _⟩
  case round =>
    obtain ⟨k, hk, rfl, rfl, hrow, hall, hB⟩ := hrel
    have cb := (hbx.below hB hlt).cell 0
    have hpl := partK_len M K z k (by have := hn.out; omega)
    by_cases hkn : k < n
    · have hkL : k < M.length := by have := hn.out; omega
      obtain ⟨b, off, rfl, c0, c1⟩ := entC_at (hF.below hB) hn.out hkn
      obtain ⟨x, hx⟩ : ∃ x, M[k] = x := ⟨_, rfl⟩
      rw [hx] at c0 c1
      have plt := fun h1 => partK_lt (M := M) (K := K) (z := z) hkL h1
      have peq := fun h1 => partK_eq (M := M) (K := K) (z := z) hkL h1
      have pgt := fun h1 => partK_gt (M := M) (K := K) (z := z) hkL h1
      have lt1 := fun h1 => atK_lt (M := M) (K := K) hkL h1
      have lt2 : k = a → less x.1 K = false := fun e => by
        have h1 : atK M K < M.length := by rw [ha.out, ← e]; exact hkL
        have h2 := atK_at h1
        have e2 : M[atK M K] = x := by
          rw [← hx]
          congr 1
          rw [ha.out, ← e]
        rw [e2] at h2
        exact h2
      rw [hx] at plt peq pgt lt1
      rw [ha.out] at plt peq pgt lt1
      obtain ⟨xk, xn⟩ := x
      simp only at c0 c1 lt1 lt2
      obtain ⟨sx, hsx⟩ : ∃ sx : ByteArray, (⟨xk.toArray⟩ : ByteArray) = sx := ⟨_, rfl⟩
      have hxl : sx.toList = xk := by rw [← hsx, ba_toList]
      rw [hsx] at c0
      have atW : ∀ W, Below w.heap.size w W → W.cell? ⟨b, off + k * 2, none⟩ = some (.string sx) ∧ W.cell? ⟨b, off + k * 2 + 1, none⟩ = some (.int .i64 xn) := fun W hWw => by
        obtain ⟨b', off', he, d0, d1⟩ := entC_at (hF.below hWw) hn.out hkn
        cases he
        rw [hx] at d0 d1
        simp only [hsx] at d0
        exact ⟨d0, d1⟩
      have mkS : ∀ W, Below wr.heap.size wr W → (fun W => W.cell? ⟨r, 0, none⟩ = some (.slice (some ⟨b, off, none⟩) n c) ∧ W.cell? ⟨b, off + k * 2, none⟩ = some (.string sx) ∧ (convert 23 9 (.slice B m d)).run Tryd.prog W = .ok (.string sK) W ∧ Below wr.heap.size wr W) W := fun W hW => by
        have hWw := hB.trans (hW.mono hB.size)
        exact ⟨(hbx.below hWw hlt).cell 0, (atW W hWw).1, hcv.out W hWw, hW⟩
      have s2 := mkS wr.drew.drew (Below.refl _ wr).drew.drew
      have s1 := mkS wr.drew (Below.refl _ wr).drew
      have s0 := mkS wr (Below.refl _ wr)
      have hdk : decide (k < n) = true := by simpa using hkn
      have oneX : ∀ u ∈ ([.string sx, .int .i64 xn] : List Value), u.oneCell' = true := by intro u hu; simp at hu; rcases hu with rfl | rfl <;> rfl
      have eX : entC [(xk, xn)] = [.string sx, .int .i64 xn] := by rw [← hsx]; rfl
      replace atW := Lib.hid atW
      replace mkS := Lib.hid mkS
      replace plt := Lib.hid plt
      replace peq := Lib.hid peq
      replace pgt := Lib.hid pgt
      replace lt1 := Lib.hid lt1
      replace lt2 := Lib.hid lt2
      replace hsx := Lib.hid hsx
      replace eX := Lib.hid eX
      by_cases hK : xk = K
      · have he : (sx.toList == sK.toList) = true := by rw [hxl, hKl.out, hK]; simp
        have hR2 : R = (8, M) := by rw [hRe.out, if_pos (hasM_of hkL (by rw [hx]; exact hK))]
        obtain ⟨A', c', q⟩ := same.out wr.drew (by exact hB.drew)
        replace hR2 := Lib.hid hR2
        replace hx := Lib.hid hx
        replace hxl := Lib.hid hxl
        clear hK
        go_wp2
        go_region_held3 (fun W => W.cell? ⟨r, 0, none⟩ = some (.slice (some ⟨b, off, none⟩) n c) ∧ W.cell? ⟨b, off + k * 2, none⟩ = some (.string sx) ∧ (convert 23 9 (.slice B m d)).run Tryd.prog W = .ok (.string sK) W ∧ Below wr.heap.size wr W)
          (first | with_reducible exact s2 | with_reducible exact s1 | with_reducible exact s0)
          (first | fail)
        go_wp2
        go_ret
        rw [hR2.out]
        exact ⟨A', c', rfl, q⟩
      · have he : (sx.toList == sK.toList) = false := by rw [hxl, hKl.out]; simpa using hK
        have hnext : ∀ j (hj : j < M.length), j < k + 1 → M[j].1 ≠ K := fun j hj hjk => by
          by_cases e : j = k
          · subst e
            rw [hx]
            exact hK
          · exact hall.out j hj (by omega)
        replace hnext := Lib.hid hnext
        replace hx := Lib.hid hx
        replace hK := Lib.hid hK
        rcases Nat.lt_trichotomy k a with hka | hka | hka
        · have hl2 : Op.bytesLess sx.toList sK.toList = true := by rw [hxl, hKl.out]; exact lt1.out hka
          have dp : decide (a < k) = false := decide_eq_false (by omega)
          have dp2 : decide (a < k + 1) = false := decide_eq_false (by omega)
          have hpe := plt.out hka
          replace hpe := Lib.hid hpe
          replace hxl := Lib.hid hxl
          replace dp2 := Lib.hid dp2
          clear hall
          rw [dp]
          go_wp2
          go_region_held3 (fun W => W.cell? ⟨r, 0, none⟩ = some (.slice (some ⟨b, off, none⟩) n c) ∧ W.cell? ⟨b, off + k * 2, none⟩ = some (.string sx) ∧ (convert 23 9 (.slice B m d)).run Tryd.prog W = .ok (.string sK) W ∧ Below wr.heap.size wr W)
            (first | with_reducible exact s2 | with_reducible exact s1 | with_reducible exact s0)
            (first | fail)
          go_wp2
          go_region_held3 (fun W => W.cell? ⟨r, 0, none⟩ = some (.slice (some ⟨b, off, none⟩) n c) ∧ W.cell? ⟨b, off + k * 2, none⟩ = some (.string sx) ∧ (convert 23 9 (.slice B m d)).run Tryd.prog W = .ok (.string sK) W ∧ Below wr.heap.size wr W)
            (first | with_reducible exact s2 | with_reducible exact s1 | with_reducible exact s0)
            (first | fail)
          obtain ⟨W, hW⟩ : ∃ W, wr.drew.drew = W := ⟨_, rfl⟩
          have hBW : Below w.heap.size w W := by rw [← hW]; exact ⟨hB.os, hB.tape, hB.output, hB.size, hB.block⟩
          have hrowW : W.ownsRow w.heap.size 55 2 u9 (partK M K z k).length (entC (partK M K z k)) := by rw [← hW]; exact hrow
          rw [hW]
          clear hW
          have cbW := (hbx.below hBW hlt).cell 0
          obtain ⟨d0, d1⟩ := atW.out W hBW
          have cvW := hcv.out W hBW
          have ownA := hrowW.alloc (.cells #[.string sx, .int .i64 xn] 55)
          have rdA := Rd.ent W sx xn
          go_wp2_with (at_builtin; refine wpList_app _ rfl (.tmp 60) (.tmp 68) rfl Tryd.underlying46 entInfo rfl (by decide) ownA rfl _ 1 1 rdA rfl oneX (by unfold maxLen; omega) (by omega) (by have := hBW.size; simp <;> omega) ?_; intro v2 w2 hown2 hgrow2 _; have b2 : Below w.heap.size w w2 := below_app (hBW.alloc hBW.size _) ownA (Nat.le_refl _) (by have := hBW.size; simp <;> omega) hgrow2)
          go_roundw
          case rel => exact ⟨k + 1, by omega, by go_num, by rw [dp2.out], by rw [hpe.out, List.length_append, entC_append, eX.out]; exact hown2, hnext, b2⟩
          case measure => simp [intOf] <;> omega
        · have hl2 : Op.bytesLess sx.toList sK.toList = false := by rw [hxl, hKl.out]; exact lt2.out hka
          have dp : decide (a < k) = false := decide_eq_false (by omega)
          have dp2 : decide (a < k + 1) = true := decide_eq_true (by omega)
          have hpe := peq.out hka
          replace hpe := Lib.hid hpe
          replace hxl := Lib.hid hxl
          replace dp2 := Lib.hid dp2
          replace hka := Lib.hid hka
          clear hall
          rw [dp]
          go_wp2
          go_region_held3 (fun W => W.cell? ⟨r, 0, none⟩ = some (.slice (some ⟨b, off, none⟩) n c) ∧ W.cell? ⟨b, off + k * 2, none⟩ = some (.string sx) ∧ (convert 23 9 (.slice B m d)).run Tryd.prog W = .ok (.string sK) W ∧ Below wr.heap.size wr W)
            (first | with_reducible exact s2 | with_reducible exact s1 | with_reducible exact s0)
            (first | fail)
          go_wp2
          go_region_held3 (fun W => W.cell? ⟨r, 0, none⟩ = some (.slice (some ⟨b, off, none⟩) n c) ∧ W.cell? ⟨b, off + k * 2, none⟩ = some (.string sx) ∧ (convert 23 9 (.slice B m d)).run Tryd.prog W = .ok (.string sK) W ∧ Below wr.heap.size wr W)
            (first | with_reducible exact s2 | with_reducible exact s1 | with_reducible exact s0)
            (first | fail)
          obtain ⟨W, hW⟩ : ∃ W, wr.drew.drew = W := ⟨_, rfl⟩
          have hBW : Below w.heap.size w W := by rw [← hW]; exact ⟨hB.os, hB.tape, hB.output, hB.size, hB.block⟩
          have hrowW : W.ownsRow w.heap.size 55 2 u9 (partK M K z k).length (entC (partK M K z k)) := by rw [← hW]; exact hrow
          rw [hW]
          clear hW
          have cbW := (hbx.below hBW hlt).cell 0
          obtain ⟨d0, d1⟩ := atW.out W hBW
          have cvW := hcv.out W hBW
          have ownA := hrowW.alloc (.cells #[.string sK, .int .i64 z] 55)
          have rdA := Rd.ent W sK z
          go_wp2_with (first
            | (at_builtin; refine wpList_app _ rfl (.tmp 53) (.tmp 58) rfl Tryd.underlying46 entInfo rfl (by decide) ownA rfl _ 1 1 rdA rfl oneK.out (by unfold maxLen; omega) (by omega) (by have := hBW.size; simp <;> omega) ?_; intro v2 w2 hown2 hgrow2 _; have b2 : Below w.heap.size w w2 := below_app (hBW.alloc hBW.size _) ownA (Nat.le_refl _) (by have := hBW.size; simp <;> omega) hgrow2; have ownB := hown2.alloc (.cells #[.string sx, .int .i64 xn] 55); have rdB := Rd.ent w2 sx xn; have cb2 := (hbx.below b2 hlt).cell 0; have cx2 := (atW.out w2 b2).1; have cy2 := (atW.out w2 b2).2)
            | (at_builtin; refine wpList_app _ rfl (.tmp 60) (.tmp 68) rfl Tryd.underlying46 entInfo rfl (by decide) ownB rfl _ 1 1 rdB rfl oneX (by unfold maxLen; omega) (by omega) (by have := b2.size; simp <;> omega) ?_; intro v3 w3 hown3 hgrow3 _; have b3 : Below w.heap.size w w3 := below_app (b2.alloc b2.size _) ownB (Nat.le_refl _) (by have := b2.size; simp <;> omega) hgrow3)
            | fail)
          go_roundw
          case rel => exact ⟨k + 1, by omega, by go_num, by rw [dp2.out], by rw [hpe.out, List.length_append, List.length_append, entC_append, entC_append, eX.out, eK.out]; exact hown3, hnext, b3⟩
          case measure => simp [intOf] <;> omega
        · have dp : decide (a < k) = true := decide_eq_true (by omega)
          have dp2 : decide (a < k + 1) = true := decide_eq_true (by omega)
          have hpe := pgt.out hka
          replace hpe := Lib.hid hpe
          replace hxl := Lib.hid hxl
          replace dp2 := Lib.hid dp2
          clear hall
          rw [dp]
          go_wp2
          go_region_held3 (fun W => W.cell? ⟨r, 0, none⟩ = some (.slice (some ⟨b, off, none⟩) n c) ∧ W.cell? ⟨b, off + k * 2, none⟩ = some (.string sx) ∧ (convert 23 9 (.slice B m d)).run Tryd.prog W = .ok (.string sK) W ∧ Below wr.heap.size wr W)
            (first | with_reducible exact s2 | with_reducible exact s1 | with_reducible exact s0)
            (first | fail)
          go_wp2
          go_quiet (fail)
          generalize hW : wr.drew.drewN _ = W
          have hBW : Below w.heap.size w W := by rw [← hW]; exact ⟨hB.os, hB.tape, hB.output, hB.size, hB.block⟩
          have hrowW : W.ownsRow w.heap.size 55 2 u9 (partK M K z k).length (entC (partK M K z k)) := by rw [← hW]; exact hrow
          clear hW
          have cbW := (hbx.below hBW hlt).cell 0
          obtain ⟨d0, d1⟩ := atW.out W hBW
          have cvW := hcv.out W hBW
          have ownA := hrowW.alloc (.cells #[.string sx, .int .i64 xn] 55)
          have rdA := Rd.ent W sx xn
          go_wp2_with (at_builtin; refine wpList_app _ rfl (.tmp 60) (.tmp 68) rfl Tryd.underlying46 entInfo rfl (by decide) ownA rfl _ 1 1 rdA rfl oneX (by unfold maxLen; omega) (by omega) (by have := hBW.size; simp <;> omega) ?_; intro v2 w2 hown2 hgrow2 _; have b2 : Below w.heap.size w w2 := below_app (hBW.alloc hBW.size _) ownA (Nat.le_refl _) (by have := hBW.size; simp <;> omega) hgrow2)
          go_roundw
          case rel => exact ⟨k + 1, by omega, by go_num, by rw [dp2.out], by rw [hpe.out, List.length_append, entC_append, eX.out]; exact hown2, hnext, b2⟩
          case measure => simp [intOf] <;> omega
    · obtain rfl : k = n := by omega
      have hdk : decide (k < k) = false := by simp
      have hR2 : R = (0, insM M K z) := by
        rw [hRe.out, hasM_no (fun j hj => hall.out j hj (by have := hn.out; omega)), if_neg (by simp)]
      have hil : (insM M K z).length = k + 1 := by rw [insM_length, hn.out]
      replace hR2 := Lib.hid hR2
      by_cases hak : a < k
      · have dp : decide (a < k) = true := decide_eq_true hak
        have hpe : partK M K z k = insM M K z := by
          have h1 := partK_end (M := M) (K := K) (z := z) (by rw [ha.out, hn.out]; exact hak)
          rwa [hn.out] at h1
        rw [hpe, hil] at hrow
        obtain ⟨A4, c4, rfl⟩ := own_slice hrow
        have hq := hfin.out wr A4 c4 _ (k + 1) hB hil hrow
        have fR := (hbx.below hB hlt).frozen
        replace hq := Lib.hid hq
        clear hrow hpe hil
        rw [dp]
        go_wp2
        go_ret
        rw [hR2.out]
        exact ⟨A4, c4, rfl, hq.out⟩
      · have dp : decide (a < k) = false := decide_eq_false hak
        have hpe : partK M K z k ++ [(K, z)] = insM M K z := by
          have h1 := partK_end2 (M := M) (K := K) (z := z) (by rw [ha.out, hn.out]; exact hak)
          rwa [hn.out] at h1
        have hpe2 : (partK M K z k).length + 1 = k + 1 := by
          have := congrArg List.length hpe
          rw [List.length_append, hil] at this
          simpa using this
        have cv := hcv.out wr hB
        have ownA := hrow.alloc (.cells #[.string sK, .int .i64 z] 55)
        have rdA := Rd.ent wr sK z
        replace hpe := Lib.hid hpe
        replace hpe2 := Lib.hid hpe2
        replace hil := Lib.hid hil
        rw [dp]
        go_wp2_with (first
          | (at_builtin; refine wpList_app _ rfl (.tmp 72) (.tmp 77) rfl Tryd.underlying46 entInfo rfl (by decide) ownA rfl _ 1 1 rdA rfl oneK.out (by unfold maxLen; omega) (by omega) (by have := hB.size; simp <;> omega) ?_; intro v2 w2 hown2 hgrow2 _; have b2 : Below w.heap.size w w2 := below_app (hB.alloc hB.size _) ownA (Nat.le_refl _) (by have := hB.size; simp <;> omega) hgrow2; obtain ⟨A4, c4, rfl⟩ := own_slice hown2; have cb2 := (hbx.below b2 hlt).cell 0; have fR := (hbx.below b2 hlt).frozen)
          | fail)
        go_ret
        rw [hR2.out]
        have hq := hfin.out w2 A4 c4 (insM M K z) ((partK M K z k).length + 1) b2 (by rw [hil.out, hpe2.out]) (by rw [← hpe.out, entC_append, eK.out]; exact hown2)
        exact ⟨A4, c4, rfl, hq⟩
end Go.Proofs.YtidnhcningkcaaaDoor
