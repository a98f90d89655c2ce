/- Walks of what a name and a change may be: the code's and the document's. -/
import Derived.Test.YtccbldlnfaiphaaDoorTwinB
import Derived.Test.YtccbldlnfaiphaaDoorOpLaw
import Derived.Test.YtccbldlnfaiphaaDoorBlkOps
import Derived.Laws.IdiomStrings
import Derived.Handy
import Derived.Lib.Hide
import Derived.Shelf.Abstract
import Derived.WalkLawsBesides
set_option linter.unusedSimpArgs false
set_option linter.unusedVariables false
namespace Herb
open Go Go.RowKit
/-- '[]byte(s)'. -/
theorem bytes_of_str2 {P : Program} (w : World) (src dst e : TypeId) (s : ByteArray) (hs : P.underlying src = some .string) (hd : P.underlying dst = some (.slice e)) (he : P.underlying e = some (.int .u8)) (l : List UInt8) (hl : s.data.toList = l) (n : Nat) (hn : s.size = n) :
    ∃ c w', n ≤ c ∧ (convert src dst (.string s)).run P w = .ok (.slice (some ⟨w.heap.size, 0, none⟩) n c) w' ∧ Bs w' (some ⟨w.heap.size, 0, none⟩) l ∧ Below w.heap.size w w' := by
  subst hn
  subst hl
  refine ⟨_, _, grownCap_ge w s.size 0 e, run_bytes_of_string w src dst e s hs hd he, ⟨by rw [bvs_length]; omega, fun _ => ⟨w.heap.size, 0, rfl, by simp, fun j u hu => ?_⟩⟩, ((Below.refl _ w).drew).alloc (by simp) _⟩
  have hj : j < s.data.size := by
    have := (List.getElem?_eq_some_iff.1 hu).1
    rw [bvs_length] at this
    simpa using this
  have h1 := cell_new_any w.drew (bytesRow s (grownCap w s.size 0 e)) e ((bytesRow s (grownCap w s.size 0 e)).size, (bytesRow s (grownCap w s.size 0 e)).size + 1) j
  rw [Nat.zero_add]
  refine h1.trans ?_
  rw [bytesRow_at s _ j hj]
  rw [bvs_get (by simpa using hj)] at hu
  simpa [bv] using hu
theorem ba_list (k : ByteArray) : k.toList = k.data.toList := by
  have key : ∀ (n : Nat) (i : Nat) (r : List UInt8), k.size - i = n → ByteArray.toList.loop k i r = r.reverse ++ k.data.toList.drop i := by
    intro n
    induction n with
    | zero =>
      intro i r h
      rw [ByteArray.toList.loop, if_neg (by omega), List.drop_of_length_le (by have : k.data.toList.length = k.size := rfl; omega), List.append_nil]
    | succ n ih =>
      intro i r h
      have hlt : i < k.size := by omega
      have hl : i < k.data.toList.length := hlt
      rw [ByteArray.toList.loop, if_pos hlt, ih (i + 1) _ (by omega), List.drop_eq_getElem_cons hl, List.reverse_cons, List.append_assoc]
      have e : k.get! i = k.data.toList[i] := by
        show k.data[i]! = _
        rw [getElem!_pos k.data i hlt]
        simp
      rw [e]
      rfl
  exact (key _ 0 [] rfl).trans (by simp)
theorem ba_nil (k : ByteArray) (n : Nat) (hn : k.size = n) : k.toList.isEmpty = decide (n = 0) := by
  rw [ba_list]
  have hl : k.data.toList.length = n := hn
  rw [← hl]
  cases k.data.toList <;> simp
namespace Cm
/-- How many of the first k signs a name may have. -/
def cnt (l : List UInt8) (k : Nat) : Nat := (l.take k).countP okc
theorem cnt_succ (l : List UInt8) (k : Nat) (h : k < l.length) : cnt l (k + 1) = cnt l k + (if okc l[k] then 1 else 0) := by
  unfold cnt
  rw [List.take_succ_eq_append_getElem h, List.countP_append]
  simp [List.countP_cons]
theorem cnt_le (l : List UInt8) (k : Nat) : cnt l k ≤ k := by
  unfold cnt
  exact Nat.le_trans List.countP_le_length (List.length_take_le _ _)
theorem nameB_cnt (s : ByteArray) : nameB s = (decide (cnt s.data.toList s.size = s.size) && decide (1 ≤ s.size) && decide (s.size ≤ 12)) := by
  have h : s.data.toList.all okc = decide (cnt s.data.toList s.size = s.size) := by
    have hl : s.data.toList.length = s.size := rfl
    unfold cnt
    rw [List.take_of_length_le (by omega)]
    rw [Bool.eq_iff_iff, decide_eq_true_eq, List.all_eq_true, ← hl, List.countP_eq_length]
  unfold nameB
  rw [h]
  cases decide (cnt s.data.toList s.size = s.size) <;> simp
end Cm
end Herb
namespace Go.Proofs.YtccbldlnfaiphaaDoor
open Go Go.RowKit Herb Herb.Cm
/-- A change as a value. -/
abbrev chv (c : Ch) : Value := .agg #[.string c.k, .int .u32 (c.va : Int), .int .u8 (c.ki : Int), .string c.v]

theorem okc_cases (x : UInt8) (n : Nat) (hn : x.toNat = n) :
    (okc x = true ∧ ((decide ((97 : Int) ≤ (n : Int)) = true ∧ decide ((n : Int) ≤ 122) = true) ∨ (decide ((97 : Int) ≤ (n : Int)) = false ∧ decide ((48 : Int) ≤ (n : Int)) = true ∧ decide ((n : Int) ≤ 57) = true))) ∨
    (okc x = false ∧ ((decide ((97 : Int) ≤ (n : Int)) = true ∧ decide ((n : Int) ≤ 122) = false ∧ decide ((48 : Int) ≤ (n : Int)) = true ∧ decide ((n : Int) ≤ 57) = false) ∨ (decide ((97 : Int) ≤ (n : Int)) = false ∧ decide ((48 : Int) ≤ (n : Int)) = true ∧ decide ((n : Int) ≤ 57) = false) ∨ (decide ((97 : Int) ≤ (n : Int)) = false ∧ decide ((48 : Int) ≤ (n : Int)) = false))) := by
  unfold okc
  rw [hn]
  simp only [Bool.or_eq_true, Bool.and_eq_true, decide_eq_true_eq, Bool.or_eq_false_iff, Bool.and_eq_false_iff, decide_eq_false_iff_not]
  omega
set_option maxHeartbeats 1600000 in
theorem name_any (w : World) (s : ByteArray) (hs : s.size ≤ 140737488355328) : Calls Tryd.prog 32 #[.string s] w fun e w' => e = .returned (.bool (nameB s)) ∧ Below w.heap.size w w' := by
  obtain ⟨n, hn⟩ : ∃ n, s.size = n := ⟨_, rfl⟩
  obtain ⟨l, hl⟩ : ∃ l, s.data.toList = l := ⟨_, rfl⟩
  have hll : l.length = n := by rw [← hl, ← hn]; rfl
  obtain ⟨M, hM⟩ : ∃ M, nameB s = M := ⟨_, rfl⟩
  rw [hM]
  rw [nameB_cnt, hl, hn] at hM
  rw [hn] at hs
  replace hM := Lib.hid hM
  obtain ⟨c, w1, hc, hconv, hb1, hbel1⟩ := bytes_of_str2 (P := Tryd.prog) w 9 30 5 s Tryd.underlying9 Tryd.underlying30 Tryd.underlying5 l hl n hn
  replace hl := Lib.hid hl
  replace hll := Lib.hid hll
  go_enter Tryd.func32, Tryd.ntmps32
  go_wp2
  go_loopw [3, 9] (fun v3 v9 wr => ∃ k : Nat, v9 = .int .i64 (k : Int) ∧ k ≤ n ∧ v3 = .int .i64 (cnt l k : Int) ∧ wr = w1) (fun _ v9 _ => n - (intOf v9).toNat)
  case atStart => exact ⟨0, rfl, by omega, rfl, rfl⟩
  case round =>
    obtain ⟨k, rfl, hk, rfl, rfl⟩ := hrel
    have hck := cnt_le l k
    clear hconv
    by_cases hlt : k < n
    · obtain ⟨b, off, e, hblt, hcc⟩ := hb1.at_ (k := k) (by rw [hll.out]; exact hlt)
      cases e
      obtain ⟨x, hx⟩ : ∃ x, l[k]'(by rw [hll.out]; exact hlt) = x := ⟨_, rfl⟩
      have cx : wr.cell? ⟨w.heap.size, 0 + k, none⟩ = some (.int .u8 (x.toNat : Int)) := by rw [← hx]; exact hcc k (by rw [hll.out]; exact hlt)
      rw [Nat.zero_add] at cx
      have hs1 := cnt_succ l k (by rw [hll.out]; exact hlt)
      rw [hx] at hs1
      have ho := okc_cases x x.toNat rfl
      obtain ⟨m, hm⟩ : ∃ m, x.toNat = m := ⟨_, rfl⟩
      rw [hm] at cx ho
      have hm256 : m < 256 := by rw [← hm]; exact x.toNat_lt
      clear hcc hx hm
      replace hs1 := Lib.hid hs1
      rcases ho with ⟨h1, ⟨d1, d2⟩ | ⟨d1, d2, d3⟩⟩ | ⟨h1, ⟨d1, d2, d3, d4⟩ | ⟨d1, d2, d3⟩ | ⟨d1, d2⟩⟩
      all_goals
        replace h1 := Lib.hid h1
        obtain ⟨q, hq⟩ : ∃ q, cnt l k = q := ⟨_, rfl⟩
        rw [hq] at hs1 hck ⊢
        go_wp2
        go_roundw
        case rel =>
          refine ⟨k + 1, by go_num, by omega, ?_, by first | rfl | trivial⟩
          have h := hs1.out
          rw [h1.out] at h
          rw [h]
          first | (simp; done) | (simp only [if_true, Bool.false_eq_true, if_false, Nat.add_zero]; go_num)
        case measure => simp [intOf]; omega
    · have hkn : k = n := by omega
      subst hkn
      have hM := hM.out
      by_cases a1 : cnt l k = k
      · have c1 : ((cnt l k : Int) == (k : Int)) = true := by simp; omega
        by_cases a2 : 1 ≤ k
        · by_cases a3 : k ≤ 12
          · have d1 : decide ((1 : Int) ≤ (cnt l k : Int)) = true := decide_eq_true (by omega)
            have d2 : decide ((cnt l k : Int) ≤ 12) = true := decide_eq_true (by omega)
            obtain rfl : M = true := by rw [← hM]; simp only [Bool.and_eq_true, decide_eq_true_eq]; omega
            replace hM := Lib.hid hM
            replace a1 := Lib.hid a1
            go_wp2
            go_ret
            exact ⟨rfl, hbel1⟩
          · have d1 : decide ((1 : Int) ≤ (cnt l k : Int)) = true := decide_eq_true (by omega)
            have d2 : decide ((cnt l k : Int) ≤ 12) = false := decide_eq_false (by omega)
            obtain rfl : M = false := by rw [← hM]; simp only [Bool.and_eq_false_iff, decide_eq_false_iff_not]; omega
            replace hM := Lib.hid hM
            replace a1 := Lib.hid a1
            go_wp2
            go_ret
            exact ⟨rfl, hbel1⟩
        · have d1 : decide ((1 : Int) ≤ (cnt l k : Int)) = false := decide_eq_false (by omega)
          obtain rfl : M = false := by rw [← hM]; simp only [Bool.and_eq_false_iff, decide_eq_false_iff_not]; omega
          replace hM := Lib.hid hM
          replace a1 := Lib.hid a1
          go_wp2
          go_ret
          exact ⟨rfl, hbel1⟩
      · have c1 : ((cnt l k : Int) == (k : Int)) = false := by simp; omega
        obtain rfl : M = false := by rw [← hM]; simp only [Bool.and_eq_false_iff, decide_eq_false_iff_not]; omega
        replace hM := Lib.hid hM
        replace a1 := Lib.hid a1
        go_wp2
        go_ret
        exact ⟨rfl, hbel1⟩
set_option maxHeartbeats 1600000 in
theorem change_any (w : World) (k v : ByteArray) (va ki : Nat) :
    Calls Tryd.prog 35 #[.agg #[.string k, .int .u32 (va : Int), .int .u8 (ki : Int), .string v]] w fun e w' => e = .returned (.bool (chB ⟨k, va, ki, v⟩)) ∧ Below w.heap.size w w' := by
  obtain ⟨M, hM⟩ : ∃ M, chB ⟨k, va, ki, v⟩ = M := ⟨_, rfl⟩
  rw [hM]
  unfold chB most at hM
  simp only at hM
  have hb := (Below.refl w.heap.size w).alloc (Nat.le_refl _) (.cells #[.string k, .int .u32 (va : Int), .int .u8 (ki : Int), .string v] 51)
  obtain ⟨n, hn⟩ : ∃ n, k.size = n := ⟨_, rfl⟩
  obtain ⟨m, hm⟩ : ∃ m, v.size = m := ⟨_, rfl⟩
  rw [hn, hm] at hM
  by_cases h_one : ki = 1
  · have e1 : ((ki : Int) == 1) = true := by simp; omega
    by_cases h_a : 1 ≤ n
    · have d1 : decide ((1 : Int) ≤ (n : Int)) = true := decide_eq_true (by omega)
      by_cases h_b : n ≤ 32
      · have d2 : decide ((n : Int) ≤ 32) = true := decide_eq_true (by omega)
        by_cases h_c : ki ≤ 1
        · have d3 : decide ((ki : Int) ≤ 1) = true := decide_eq_true (by omega)
          by_cases h_m0 : m ≤ 0
          · have d4 : decide (m = 0) = true := decide_eq_true (by omega)
            obtain rfl : M = true := by rw [← hM]; simp only [Bool.and_eq_true, decide_eq_true_eq]; split <;> omega
            replace h_one := Lib.hid h_one
            replace hM := Lib.hid hM
            go_enter Tryd.func35, Tryd.ntmps35
            go_wp2
            go_ret
            exact ⟨rfl, hb⟩
          · have d4 : decide (m = 0) = false := decide_eq_false (by omega)
            obtain rfl : M = false := by rw [← hM]; simp only [Bool.and_eq_false_iff, decide_eq_false_iff_not]; split <;> omega
            replace h_one := Lib.hid h_one
            replace hM := Lib.hid hM
            go_enter Tryd.func35, Tryd.ntmps35
            go_wp2
            go_ret
            exact ⟨rfl, hb⟩
        · have d3 : decide ((ki : Int) ≤ 1) = false := decide_eq_false (by omega)
          obtain rfl : M = false := by rw [← hM]; simp only [Bool.and_eq_false_iff, decide_eq_false_iff_not]; split <;> omega
          replace h_one := Lib.hid h_one
          replace hM := Lib.hid hM
          go_enter Tryd.func35, Tryd.ntmps35
          go_wp2
          go_ret
          exact ⟨rfl, hb⟩
      · have d2 : decide ((n : Int) ≤ 32) = false := decide_eq_false (by omega)
        obtain rfl : M = false := by rw [← hM]; simp only [Bool.and_eq_false_iff, decide_eq_false_iff_not]; split <;> omega
        replace h_one := Lib.hid h_one
        replace hM := Lib.hid hM
        go_enter Tryd.func35, Tryd.ntmps35
        go_wp2
        go_ret
        exact ⟨rfl, hb⟩
    · have d1 : decide ((1 : Int) ≤ (n : Int)) = false := decide_eq_false (by omega)
      obtain rfl : M = false := by rw [← hM]; simp only [Bool.and_eq_false_iff, decide_eq_false_iff_not]; split <;> omega
      replace h_one := Lib.hid h_one
      replace hM := Lib.hid hM
      go_enter Tryd.func35, Tryd.ntmps35
      go_wp2
      go_ret
      exact ⟨rfl, hb⟩
  · have e1 : ((ki : Int) == 1) = false := by simp; omega
    by_cases h_a : 1 ≤ n
    · have d1 : decide ((1 : Int) ≤ (n : Int)) = true := decide_eq_true (by omega)
      by_cases h_b : n ≤ 32
      · have d2 : decide ((n : Int) ≤ 32) = true := decide_eq_true (by omega)
        by_cases h_c : ki ≤ 1
        · have d3 : decide ((ki : Int) ≤ 1) = true := decide_eq_true (by omega)
          by_cases h_m1 : m ≤ 256
          · have d4 : decide ((m : Int) ≤ 256) = true := decide_eq_true (by omega)
            obtain rfl : M = true := by rw [← hM]; simp only [Bool.and_eq_true, decide_eq_true_eq]; split <;> omega
            replace hM := Lib.hid hM
            go_enter Tryd.func35, Tryd.ntmps35
            go_wp2
            go_ret
            exact ⟨rfl, hb⟩
          · have d4 : decide ((m : Int) ≤ 256) = false := decide_eq_false (by omega)
            obtain rfl : M = false := by rw [← hM]; simp only [Bool.and_eq_false_iff, decide_eq_false_iff_not]; split <;> omega
            replace hM := Lib.hid hM
            go_enter Tryd.func35, Tryd.ntmps35
            go_wp2
            go_ret
            exact ⟨rfl, hb⟩
        · have d3 : decide ((ki : Int) ≤ 1) = false := decide_eq_false (by omega)
          obtain rfl : M = false := by rw [← hM]; simp only [Bool.and_eq_false_iff, decide_eq_false_iff_not]; split <;> omega
          replace hM := Lib.hid hM
          go_enter Tryd.func35, Tryd.ntmps35
          go_wp2
          go_ret
          exact ⟨rfl, hb⟩
      · have d2 : decide ((n : Int) ≤ 32) = false := decide_eq_false (by omega)
        obtain rfl : M = false := by rw [← hM]; simp only [Bool.and_eq_false_iff, decide_eq_false_iff_not]; split <;> omega
        replace hM := Lib.hid hM
        go_enter Tryd.func35, Tryd.ntmps35
        go_wp2
        go_ret
        exact ⟨rfl, hb⟩
    · have d1 : decide ((1 : Int) ≤ (n : Int)) = false := decide_eq_false (by omega)
      obtain rfl : M = false := by rw [← hM]; simp only [Bool.and_eq_false_iff, decide_eq_false_iff_not]; split <;> omega
      replace hM := Lib.hid hM
      go_enter Tryd.func35, Tryd.ntmps35
      go_wp2
      go_ret
      exact ⟨rfl, hb⟩
set_option maxHeartbeats 1600000 in
theorem refName_any (w : World) (s : ByteArray) (hs : s.size ≤ 140737488355328) : Calls Tryd.prog 36 #[.string s] w fun e w' => e = .returned (.bool (nameB s)) ∧ w = w' := by
  obtain ⟨n, hn⟩ : ∃ n, s.size = n := ⟨_, rfl⟩
  obtain ⟨l, hl⟩ : ∃ l, s.data.toList = l := ⟨_, rfl⟩
  have hll : l.length = n := by rw [← hl, ← hn]; rfl
  have hnil := ba_nil s n hn
  obtain ⟨M, hM⟩ : ∃ M, nameB s = M := ⟨_, rfl⟩
  rw [hM]
  unfold nameB at hM
  rw [hl, hn] at hM
  replace hl := Lib.hid hl
  replace hll := Lib.hid hll
  by_cases h0 : n = 0
  · have e1 : s.toList.isEmpty = true := by rw [hnil]; simpa using h0
    obtain rfl : M = false := by rw [← hM]; simp; omega
    replace hM := Lib.hid hM
    replace hnil := Lib.hid hnil
    replace h0 := Lib.hid h0
    go_enter Tryd.func36, Tryd.ntmps36
    go_wp2
    go_ret
    exact ⟨rfl, rfl⟩
  have e1 : s.toList.isEmpty = false := by rw [hnil]; simpa using h0
  by_cases h12 : 12 < n
  · have d1 : decide ((12 : Int) < (n : Int)) = true := decide_eq_true (by omega)
    obtain rfl : M = false := by rw [← hM]; simp; omega
    replace hM := Lib.hid hM
    replace hnil := Lib.hid hnil
    go_enter Tryd.func36, Tryd.ntmps36
    go_wp2
    go_ret
    exact ⟨rfl, rfl⟩
  have d1 : decide ((12 : Int) < (n : Int)) = false := decide_eq_false (by omega)
  have hM2 : l.all okc = M := by rw [← hM]; simp; omega
  replace hM := Lib.hid hM
  replace hM2 := Lib.hid hM2
  replace hnil := Lib.hid hnil
  go_enter Tryd.func36, Tryd.ntmps36
  go_wp2
  go_loop [3] (fun v3 => ∃ k : Nat, v3 = .int .i64 (k : Int) ∧ k ≤ n ∧ (∀ j (hj : j < l.length), j < k → okc l[j] = true)) (fun v3 => n - (intOf v3).toNat)
  case atStart => exact ⟨0, rfl, by omega, fun j _ h => absurd h (by omega)⟩
  case round =>
    obtain ⟨k, rfl, hk, hall⟩ := hrel
    by_cases hlt : k < n
    · have hkl : k < l.length := by rw [hll.out]; exact hlt
      obtain ⟨x, hx⟩ : ∃ x, l[k] = x := ⟨_, rfl⟩
      have hix : ∀ W, (Instr.index 9 (.string s) (.int .i64 (k : Int))).run Tryd.prog W = .ok (.int .u8 (x.toNat : Int)) W := by
        intro W
        have hks : k < s.size := by rw [hn]; exact hlt
        have e := run_index_string (P := Tryd.prog) (w := W) 9 s .i64 (k : Int) Tryd.underlying9
        rw [e, dif_pos ⟨by omega, by omega⟩]
        have hg : s[((k : Int)).toNat]'(by simpa using hks) = x := by
          rw [← hx]
          simp only [← hl.out, Int.toNat_natCast]
          rfl
        rw [hg]
      have ho := okc_cases x x.toNat rfl
      obtain ⟨m, hm⟩ : ∃ m, x.toNat = m := ⟨_, rfl⟩
      rw [hm] at hix ho
      have hm256 : m < 256 := by rw [← hm]; exact x.toNat_lt
      replace hx := Lib.hid hx
      replace hall := Lib.hid hall
      clear hm
      rcases ho with ⟨h1, ho⟩ | ⟨h1, ho⟩
      · replace h1 := Lib.hid h1
        have hall' : ∀ j (hj : j < l.length), j < k + 1 → okc l[j] = true := fun j hj hjk => by
          rcases Nat.lt_succ_iff_lt_or_eq.1 hjk with h | rfl
          · exact hall.out j hj h
          · rw [hx.out]; exact h1.out
        replace hall' := Lib.hid hall'
        rcases ho with ⟨d1, d2⟩ | ⟨d1, d2, d3⟩
        · by_cases d3 : 48 ≤ m
          · have d3' : decide ((48 : Int) ≤ (m : Int)) = true := decide_eq_true (by omega)
            have d4 : decide ((m : Int) ≤ 57) = false := by
              have : ¬ m ≤ 57 := by have := of_decide_eq_true d1; omega
              exact decide_eq_false (by omega)
            go_wp2
            go_round
            case rel => exact ⟨k + 1, by go_num, by omega, hall'.out⟩
            case measure => simp [intOf]; omega
          · have := of_decide_eq_true d1
            omega
        · go_wp2
          go_round
          case rel => exact ⟨k + 1, by go_num, by omega, hall'.out⟩
          case measure => simp [intOf]; omega
      · have hMf : M = false := by
          rw [← hM2.out]
          refine Bool.eq_false_iff.2 fun h => ?_
          have h2 := List.all_eq_true.1 h _ (List.getElem_mem hkl)
          rw [hx.out, h1] at h2
          cases h2
        subst hMf
        replace h1 := Lib.hid h1
        rcases ho with ⟨d1, d2, d3, d4⟩ | ⟨d1, d2, d3⟩ | ⟨d1, d2⟩
        all_goals
          go_wp2
          go_ret
          exact ⟨rfl, rfl⟩
    · have hMt : M = true := by
        rw [← hM2.out, List.all_eq_true]
        intro x hx
        obtain ⟨j, hj, rfl⟩ := List.getElem_of_mem hx
        exact hall j hj (by have := hll.out; omega)
      subst hMt
      replace hall := Lib.hid hall
      go_wp2
      go_ret
      exact ⟨rfl, rfl⟩
set_option maxHeartbeats 1600000 in
theorem refChange_any (w : World) (k v : ByteArray) (va ki : Nat) :
    Calls Tryd.prog 37 #[.agg #[.string k, .int .u32 (va : Int), .int .u8 (ki : Int), .string v]] w fun e w' => e = .returned (.bool (chB ⟨k, va, ki, v⟩)) ∧ Below w.heap.size w w' := by
  obtain ⟨M, hM⟩ : ∃ M, chB ⟨k, va, ki, v⟩ = M := ⟨_, rfl⟩
  rw [hM]
  unfold chB most at hM
  simp only at hM
  have hb := (Below.refl w.heap.size w).alloc (Nat.le_refl _) (.cells #[.string k, .int .u32 (va : Int), .int .u8 (ki : Int), .string v] 51)
  obtain ⟨n, hn⟩ : ∃ n, k.size = n := ⟨_, rfl⟩
  obtain ⟨m, hm⟩ : ∃ m, v.size = m := ⟨_, rfl⟩
  have kn := ba_nil k n hn
  have vn := ba_nil v m hm
  rw [hn, hm] at hM
  replace kn := Lib.hid kn
  replace vn := Lib.hid vn
  by_cases h_a : n = 0
  · have e1 : k.toList.isEmpty = true := by rw [kn.out]; simpa using h_a
    obtain rfl : M = false := by rw [← hM]; simp only [Bool.and_eq_false_iff, decide_eq_false_iff_not]; split <;> omega
    replace h_a := Lib.hid h_a
    replace hM := Lib.hid hM
    go_enter Tryd.func37, Tryd.ntmps37
    go_wp2
    go_ret
    exact ⟨rfl, hb⟩
  · have e1 : k.toList.isEmpty = false := by rw [kn.out]; simpa using h_a
    by_cases h_b : 32 < n
    · have d2 : decide ((32 : Int) < (n : Int)) = true := decide_eq_true (by omega)
      obtain rfl : M = false := by rw [← hM]; simp only [Bool.and_eq_false_iff, decide_eq_false_iff_not]; split <;> omega
      replace hM := Lib.hid hM
      go_enter Tryd.func37, Tryd.ntmps37
      go_wp2
      go_ret
      exact ⟨rfl, hb⟩
    · have d2 : decide ((32 : Int) < (n : Int)) = false := decide_eq_false (by omega)
      by_cases h_c : 256 < m
      · have d3 : decide ((256 : Int) < (m : Int)) = true := decide_eq_true (by omega)
        obtain rfl : M = false := by rw [← hM]; simp only [Bool.and_eq_false_iff, decide_eq_false_iff_not]; split <;> omega
        replace hM := Lib.hid hM
        go_enter Tryd.func37, Tryd.ntmps37
        go_wp2
        go_ret
        exact ⟨rfl, hb⟩
      · have d3 : decide ((256 : Int) < (m : Int)) = false := decide_eq_false (by omega)
        by_cases h_k0 : ki = 0
        · have f0 : ((ki : Int) == 0) = true := by simp; omega
          obtain rfl : M = true := by rw [← hM]; simp only [Bool.and_eq_true, decide_eq_true_eq]; split <;> omega
          replace h_k0 := Lib.hid h_k0
          replace hM := Lib.hid hM
          go_enter Tryd.func37, Tryd.ntmps37
          go_wp2
          go_ret
          exact ⟨rfl, hb⟩
        · have f0 : ((ki : Int) == 0) = false := by simp; omega
          by_cases h_k1 : ki = 1
          · have f1 : ((ki : Int) == 1) = true := by simp; omega
            by_cases h_m0 : m = 0
            · have e4 : v.toList.isEmpty = true := by rw [vn.out]; simpa using h_m0
              obtain rfl : M = true := by rw [← hM]; simp only [Bool.and_eq_true, decide_eq_true_eq]; split <;> omega
              replace h_k1 := Lib.hid h_k1
              replace h_m0 := Lib.hid h_m0
              replace hM := Lib.hid hM
              go_enter Tryd.func37, Tryd.ntmps37
              go_wp2
              go_ret
              exact ⟨rfl, hb⟩
            · have e4 : v.toList.isEmpty = false := by rw [vn.out]; simpa using h_m0
              obtain rfl : M = false := by rw [← hM]; simp only [Bool.and_eq_false_iff, decide_eq_false_iff_not]; split <;> omega
              replace h_k1 := Lib.hid h_k1
              replace hM := Lib.hid hM
              go_enter Tryd.func37, Tryd.ntmps37
              go_wp2
              go_ret
              exact ⟨rfl, hb⟩
          · have f1 : ((ki : Int) == 1) = false := by simp; omega
            obtain rfl : M = false := by rw [← hM]; simp only [Bool.and_eq_false_iff, decide_eq_false_iff_not]; split <;> omega
            replace hM := Lib.hid hM
            go_enter Tryd.func37, Tryd.ntmps37
            go_wp2
            go_ret
            exact ⟨rfl, hb⟩
end Go.Proofs.YtccbldlnfaiphaaDoor
