/- Records as arguments; few. -/
import Derived.Test.YtnjihcjijicgpaaFrLaid
import Derived.Test.YtnjihcjijicgpaaLift
set_option linter.unusedSimpArgs false
set_option linter.unusedVariables false
namespace Herb
open Go Go.RowKit
theorem choose_list {α : Type} {p : Nat → α → Prop} : ∀ n : Nat, (∀ i, i < n → ∃ y, p i y) → ∃ l : List α, l.length = n ∧ ∀ i (h : i < l.length), p i l[i]
  | 0, _ => ⟨[], rfl, fun i h => absurd h (by simp)⟩
  | n + 1, h => by
    obtain ⟨l, hl, hp⟩ := choose_list n (fun i hi => h i (by omega))
    obtain ⟨y, hy⟩ := h n (by omega)
    refine ⟨l ++ [y], by simp [hl], fun i hi => ?_⟩
    by_cases hlt : i < l.length
    · rw [List.getElem_append_left hlt]
      exact hp i hlt
    · have : i = n := by simp at hi; omega
      subst this
      rw [List.getElem_append_right (by omega)]
      simpa [hl] using hy
theorem add_add (a : Addr) (i j : Nat) : (a.add i).add j = a.add (i + j) := by
  obtain ⟨b, o, sp⟩ := a
  unfold Addr.add
  split <;> split <;> simp_all <;> omega
theorem one_at {α : Type} {l : List α} {o : Nat} {v : α} (h : (l.drop o).take 1 = [v]) : l[o]? = some v := by
  have h2 : ((l.drop o).take 1)[0]? = some v := by rw [h]; rfl
  rw [List.getElem?_take, if_pos (by omega), List.getElem?_drop] at h2
  simpa using h2
theorem rwsC_length (rs : List Rw) : (rwsC rs).length = rs.length := by simp [rwsC]
end Herb
namespace Go.Proofs.Ytnjihcjijicgpaa
open Go Go.RowKit Go.ChangeShapes Go.WideShapes Herb Go.ChangeAt
section
variable {H : Type} {enc : TypeId × Value → H} {W : World} {b0 base : Nat} {held : Bool} {r : Reach}
/-- A text's cell. -/
theorem text_cell {fuel : Nat} {cs : List Value} {x : DataW H × List MemPlace} (h : DataW.trod enc Try.prog W 0 (fun _ => true) held fuel 22 cs = some x) :
    ∃ (A : Option Addr) (c : Nat) (l : List UInt8), cs = [.slice A l.length c] ∧ Bs W A l ∧ l.length ≤ c ∧ ∀ m, (∀ n ∈ x.1.weights Try.prog 22, n ≤ m) → c ≤ m := by
  have hbe : Try.prog.bytesOf 5 = 1 := by kernel_rfl
  rcases open_ints Try.underlying22 Try.underlying5 (by kernel_rfl) h with ⟨hcs, hx⟩ | ⟨a, len, cap, zs, hcs, _, hl, hm, hz, hx, hcell, hwz⟩
  · exact ⟨none, 0, [], hcs, Bs.nil_ _ _, Nat.le_refl _, fun _ _ => Nat.zero_le _⟩
  · have hz' : zs.length = cap := by simpa using hz
    have hall : ∃ l0 : List UInt8, zs = l0.map (fun c => (c.toNat : Int)) := by
      clear hz hx hcell hz'
      induction zs with
      | nil => exact ⟨[], rfl⟩
      | cons z zs ih =>
        obtain ⟨c, rfl⟩ := intOf_wf_u8 (hwz z (by simp))
        obtain ⟨l0, rfl⟩ := ih (fun n hn => hwz n (by simp [hn]))
        exact ⟨c :: l0, rfl⟩
    obtain ⟨l0, rfl⟩ := hall
    have hl0 : l0.length = cap := by simpa using hz'
    have hlen : (l0.take len).length = len := by rw [List.length_take, Nat.min_eq_left (by omega)]
    refine ⟨some a, cap, l0.take len, by rw [hlen]; exact hcs, ?_, by omega, ?_⟩
    · refine ⟨by simp [bvs_length], fun hn => ?_⟩
      obtain ⟨b, off, spot⟩ := a
      have h0 := hcell 0 (by simp; omega)
      have hspot : spot = none := by simpa [Addr.add] using World.cell?_spot h0
      subst hspot
      have hblt : b < W.heap.size := by
        have := World.block_lt_of_cell? W _ h0
        simpa [Addr.add] using this
      refine ⟨b, off, rfl, hblt, fun j u hu => ?_⟩
      have hj : j < (l0.take len).length := by
        rcases Nat.lt_or_ge j (l0.take len).length with h | h
        · exact h
        · rw [List.getElem?_eq_none (by rw [bvs_length]; exact h)] at hu; cases hu
      rw [bvs_get hj] at hu
      have hj2 : j < l0.length := by omega
      have hc := hcell j (by simpa using hj2)
      rw [add_eq] at hc
      rw [hc]
      simp only [Option.some.injEq] at hu
      rw [← hu]
      simp [bv, List.getD, hj2]
    · intro m hw
      have hx1 : x.1 = .slice (lits .u8 ((l0.map fun c => (c.toNat : Int)).take len)) (lits .u8 ((l0.map fun c => (c.toNat : Int)).drop len)) := congrArg Prod.fst hx
      have := hw ((lits (H := H) .u8 ((l0.map fun c => (c.toNat : Int)).take len)).length * 1 + (lits (H := H) .u8 ((l0.map fun c => (c.toNat : Int)).drop len)).length * 1) (by
        rw [hx1]
        simp [DataW.weights, Try.underlying22, hbe])
      simp [lits] at this
      omega
theorem weights_all_mem (t : TypeId) : ∀ {es : List (DataW H)} {d : DataW H}, d ∈ es → ∀ k ∈ d.weights Try.prog t, k ∈ DataW.weightsAll Try.prog t es
  | e :: es, d, hd, k, hk => by
    show k ∈ DataW.weights Try.prog t e ++ DataW.weightsAll Try.prog t es
    rw [List.mem_append]
    rcases List.mem_cons.1 hd with rfl | hd
    · exact .inl hk
    · exact .inr (weights_all_mem t hd k hk)
/-- Records as an argument. -/
theorem open_rows {v : Value} {d : DataW H} {ps : List MemPlace} (hv : Value.okWide Try.prog W r b0 23 v) (h : DataW.Trod enc Try.prog W 0 (fun _ => true) held 23 v d ps) :
    ∃ (A : Option Addr) (c : Nat) (ls : List Rw), v = .slice A ls.length c ∧ Rd W 1 A ls.length (rwsC ls) ∧ ls.length ≤ c ∧ c ≤ 9223372036854775807 ∧ (∀ y ∈ ls, Bs W y.A y.t ∧ y.t.length ≤ y.c) ∧
      ∀ {ts : List TypeId} {ds : List (DataW H)}, (DataW.weightsEach Try.prog ts ds).all (· ≤ reachBytes) = true → ∀ (j : Nat), ts[j]? = some 23 → ds[j]? = some d → ∀ y ∈ ls, y.c ≤ reachBytes := by
  obtain ⟨a0, len0, cap0, rfl⟩ := okWide_slice Try.underlying23 hv
  obtain ⟨fuel, hf⟩ := h
  have c3 : Try.prog.cellsOf 22 = 1 := by kernel_rfl
  rcases DataW.trod_slice Try.underlying23 hf with ⟨hcs, hx⟩ | ⟨a, len, cap, elems, rest, n, _, hcs, hx, _, hl, hm, hlen, hel, _, _⟩
  · simp [Value.cells] at hcs
    obtain ⟨rfl, rfl, rfl⟩ := hcs
    exact ⟨none, 0, [], rfl, Rd.nil_ _ _ _, Nat.le_refl _, by omega, fun _ h => (by cases h), fun _ _ _ _ _ h => (by cases h)⟩
  · simp [Value.cells] at hcs
    obtain ⟨rfl, rfl, rfl⟩ := hcs
    have each : ∀ i, i < len0 → ∃ y : Rw, W.cell? (a.add i) = some y.v ∧ Bs W y.A y.t ∧ y.t.length ≤ y.c ∧ ∀ m, (∀ n ∈ (elems[i]?.map (fun x => x.1.weights Try.prog 22)).getD [], n ≤ m) → y.c ≤ m := by
      intro i hi
      have he := hel i hi
      obtain ⟨x, hxe⟩ : ∃ x, elems[i]? = some x := ⟨_, List.getElem?_eq_getElem (by omega)⟩
      rw [hxe, c3] at he
      rw [Option.bind_eq_some_iff] at he
      obtain ⟨cs, hc, ht⟩ := he
      obtain ⟨A, c, l, hy, hb, hlc, hw⟩ := text_cell ht
      obtain ⟨_, _, hcell⟩ := World.cells?_some hc
      refine ⟨⟨A, c, l⟩, ?_, hb, hlc, fun m hm => hw m (by rw [hxe] at hm; exact hm)⟩
      have := hcell 0 (by omega)
      rw [hy] at this
      rw [add_add, Nat.mul_one, Nat.add_zero] at this
      rw [this]
      rfl
    obtain ⟨ls, hls, hp⟩ := choose_list len0 each
    subst hls
    refine ⟨some a, cap0, ls, rfl, ⟨by rw [rwsC_length, Nat.mul_one], fun hn => ?_⟩, hl, by unfold maxLen at hm; omega, ?_, ?_⟩
    · obtain ⟨b, off, spot⟩ := a
      have h0 := (hp 0 hn).1
      have hspot : spot = none := by simpa [Addr.add] using World.cell?_spot h0
      subst hspot
      have hblt : b < W.heap.size := by
        have := World.block_lt_of_cell? W _ h0
        simpa [Addr.add] using this
      refine ⟨b, off, rfl, hblt, fun j u hu => ?_⟩
      have hj : j < ls.length := by
        rcases Nat.lt_or_ge j ls.length with h | h
        · exact h
        · rw [List.getElem?_eq_none (by rw [rwsC_length]; exact h)] at hu; cases hu
      have hc := (hp j hj).1
      rw [add_eq] at hc
      rw [rwsC_get hj] at hu
      rw [hc, hu]
    · intro y hy
      obtain ⟨i, hi, rfl⟩ := List.getElem_of_mem hy
      exact ⟨(hp i hi).2.1, (hp i hi).2.2.1⟩
    · intro ts ds hall j hjt hjd y hy
      obtain ⟨i, hi, rfl⟩ := List.getElem_of_mem hy
      refine (hp i hi).2.2.2 reachBytes (fun k hk => ?_)
      obtain ⟨x, hxe⟩ : ∃ x, elems[i]? = some x := ⟨_, List.getElem?_eq_getElem (by omega)⟩
      rw [hxe] at hk
      have hd : d = .slice (elems.map (·.1)) (rest.map (·.1)) := congrArg Prod.fst hx
      have hmem : k ∈ DataW.weights Try.prog 23 d := by
        rw [hd]
        unfold DataW.weights
        rw [Try.underlying23]
        refine List.mem_cons_of_mem _ (List.mem_append_left _ (weights_all_mem _ (d := x.1) ?_ k hk))
        exact List.mem_map.2 ⟨x, List.mem_of_getElem? hxe, rfl⟩
      have := List.all_eq_true.1 hall _ (DataW.weights_mem_each hjt hjd _ hmem)
      simpa using this
end

set_option maxHeartbeats 1000000 in
theorem few_any (w : World) (A : Option Addr) (n c : Nat) (l : List UInt8) (hl : l.length = n) (hn : n ≤ 140737488355328) (B : Option Addr) (m d : Nat) (rs : List Rw) (hm : rs.length = m) (hm2 : m ≤ 9223372036854775807) (hrd : Rd w 1 B m (rwsC rs))
    (hrs : ∀ y ∈ rs, y.t.length ≤ 140737488355328) (z : Bool) (hz : decide (Fr.bulk l (rs.map Rw.t) < 20000) = z) :
    Calls Try.prog 7 #[.slice A n c, .slice B m d] w fun e w' => e = .returned (.bool z) ∧ w = w' := by
  replace hl := Lib.hid hl
  replace hm := Lib.hid hm
  replace hrs := Lib.hid hrs
  replace hz := Lib.hid hz
  go_enter Try.func7, Try.ntmps7
  go_wp2
  go_loop [5, 6] (fun v i => ∃ k N : Nat, k ≤ m ∧ i = .int .i64 (k : Int) ∧ v = .int .i64 (N : Int) ∧ Fr.bulk l ((rs.map Rw.t).take k) = N ∧ N ≤ 140737488375400) (fun _ i => m - (intOf i).toNat)
  case atStart => exact ⟨0, n, by omega, rfl, rfl, by simp [Fr.bulk]; exact hl.out, by omega⟩
  case round =>
    obtain ⟨k, N, hk, rfl, rfl, hN, hNb⟩ := hrel
    replace hN := Lib.hid hN
    by_cases hlt : k < m
    · by_cases hlt2 : N < 20000
      · obtain ⟨b, off, rfl, _, hc⟩ := hrd.at_ hlt
        have hkl : k < rs.length := by rw [hm.out]; exact hlt
        have hc0 := hc _ _ (rwsC_get hkl)
        have hy := hrs.out _ (List.getElem_mem hkl)
        obtain ⟨y, hye⟩ : ∃ y, rs[k] = y := ⟨_, rfl⟩
        have hts : (rs.map Rw.t).take (k + 1) = (rs.map Rw.t).take k ++ [y.t] := by
          rw [Fr.take_snoc _ _ (by simpa using hkl), List.getElem_map, hye]
        rw [hye] at hc0 hy
        obtain ⟨yA, yc, yt⟩ := y
        simp only at hy hts
        obtain ⟨q, hq⟩ : ∃ q, yt.length = q := ⟨_, rfl⟩
        have hc1 : w.cell? ⟨b, off + k, none⟩ = some (.slice yA q yc) := by rw [← hq]; exact hc0
        have hb2 : Fr.bulk l ((rs.map Rw.t).take (k + 1)) = N + q + 10 := by rw [hts, Fr.bulk_snoc, hN.out, hq]; omega
        rw [hq] at hy
        have d1 : decide (k < m) = true := decide_eq_true hlt
        have d2 : decide ((N : Int) < 20000) = true := decide_eq_true (by omega)
        have hk9 : k < 9223372036854775807 := by omega
        replace hb2 := Lib.hid hb2
        clear hc hc0 hts hye hq
        go_wp2
        go_round
        case rel => exact ⟨k + 1, N + q + 10, by omega, by go_num, by go_num, hb2.out, by omega⟩
        case measure => simp [intOf]; omega
      · have d1 : decide (k < m) = true := decide_eq_true hlt
        have d2 : decide ((N : Int) < 20000) = false := decide_eq_false (by omega)
        go_wp2
        go_ret
        have h2 := Fr.bulk_take l (rs.map Rw.t) k
        rw [hN.out] at h2
        refine ⟨?_, rfl⟩
        rw [← hz.out, decide_eq_false (by omega)]
        rfl
    · obtain rfl : k = m := by omega
      have d1 : decide (k < k) = false := decide_eq_false (by omega)
      have hte : (rs.map Rw.t).take k = rs.map Rw.t := List.take_of_length_le (by rw [List.length_map, hm.out]; omega)
      have h2 := hN.out
      rw [hte] at h2
      replace h2 := Lib.hid h2
      clear hte
      by_cases hlt2 : N < 20000
      · have d2 : decide ((N : Int) < 20000) = true := decide_eq_true (by omega)
        go_wp2
        go_ret
        refine ⟨?_, rfl⟩
        rw [← hz.out, h2.out, decide_eq_true hlt2]
        rfl
      · have d2 : decide ((N : Int) < 20000) = false := decide_eq_false (by omega)
        go_wp2
        go_ret
        refine ⟨?_, rfl⟩
        rw [← hz.out, h2.out, decide_eq_false hlt2]
        rfl
end Go.Proofs.Ytnjihcjijicgpaa
