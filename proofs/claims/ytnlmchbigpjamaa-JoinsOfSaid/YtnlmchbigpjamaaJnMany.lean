/- The walks of the statements' of, letters. -/
import Derived.Test.YtnlmchbigpjamaaJnTold
set_option linter.unusedSimpArgs false
set_option linter.unusedVariables false
namespace Go.Proofs.Ytnlmchbigpjamaa
open Go Go.RowKit Go.Shelf Herb Herb.Jn
def slV (x : Sl) : Value := .slice x.A x.fs.length x.c
/-- Lists of facts, as an argument. -/
structure Rows_ (w : World) (A : Option Addr) (ls : List Sl) : Prop where
  row : Rd w 1 A ls.length (ls.map slV)
  fs : ∀ x ∈ ls, Fs w x.A x.fs
theorem Rows_.below {w w' : World} {A : Option Addr} {ls : List Sl} (h : Rows_ w A ls) (hb : Below w.heap.size w w') : Rows_ w' A ls := ⟨h.row.below hb, fun x hx => (h.fs x hx).below hb⟩
theorem Rd.lt_ {w : World} {size n : Nat} {A : Option Addr} {xs : List Value} (h : Rd w size A n xs) (hn : 0 < n) : ∀ a, A = some a → a.block < w.heap.size := fun a ha => by
  obtain ⟨b, off, e, hb, _⟩ := h.2 hn
  rw [ha] at e
  cases e
  exact hb
theorem le_total : ∀ {R : List (List Ft)} {x : List Ft}, x ∈ R → x.length ≤ total R
  | y :: R, x, hx => by
    unfold total
    simp only [List.map_cons, List.sum_cons]
    rcases List.mem_cons.1 hx with rfl | hx
    · omega
    · have := le_total hx
      unfold total at this
      omega
set_option maxRecDepth 100000 in
set_option maxHeartbeats 1600000 in
theorem lawOf_any (w : World) (A : Option Addr) (n c : Nat) (ls : List Sl) (hn : ls.length = n) (hn2 : n ≤ 1000) (hR : Rows_ w A ls) (out : List Ft) (hM : Merge (ls.map Sl.fs) out) (hol : out.length ≤ 1000000) :
    Calls Try.prog 16 #[.slice A n c] w fun e w' => ∃ A' c', e = .returned (.slice A' (dd out).length c') ∧ w'.ownsRow w.heap.size 44 6 (.slice A' (dd out).length c') (dd out).length (ftC (dd out)) ∧ Below w.heap.size w w' := by
  obtain ⟨C, hC⟩ : ∃ C, w.heap.size = C := ⟨_, rfl⟩
  obtain ⟨w1, hw1⟩ : ∃ w1, w.alloc (.cells #[.int .i64 0] 3) = w1 := ⟨_, rfl⟩
  have b1 : Below C w w1 := by rw [← hw1, ← hC]; exact (Below.refl _ _).alloc (Nat.le_refl _) _
  have kC1 : Blk w1 C 3 #[.int .i64 0] := by rw [← hw1, ← hC]; exact Blk.new w _ _
  have hs1 : w1.heap.size = C + 1 := by rw [← hw1, ← hC]; simp
  have hrow := hR.row
  rw [hn] at hrow
  have hll : ∀ x ∈ ls, x.fs.length ≤ 1000000 := fun x hx => by
    have h1 := hM.len
    have h2 : x.fs.length ≤ total (ls.map Sl.fs) := le_total (List.mem_map.2 ⟨x, hx, rfl⟩)
    omega
  have hfq : ∀ W, Below C w W → SqFs W C (ls.map some) := fun W hW x hx => by
    obtain ⟨y, hy, e⟩ := List.mem_map.1 hx
    cases e
    have hf := hR.fs x hy
    refine ⟨hf.below (by rw [hC]; exact hW), fun a ha hl => ?_, hll x hy⟩
    have := Rd.lt_ hf hl a ha
    omega
  have hqf : (ls.map some).map sqF = ls.map Sl.fs := by rw [List.map_map]; rfl
  have hql : (ls.map some).length = n := by rw [List.length_map, hn]
  rw [← hqf] at hM
  replace hn := Lib.hid hn
  replace hw1 := Lib.hid hw1
  replace hql := Lib.hid hql
  replace hqf := Lib.hid hqf
  replace hM := Lib.hid hM
  replace hfq := Lib.hid hfq
  replace hll := Lib.hid hll
  rw [hC]
  go_enter Try.func16, Try.ntmps16
  go_wp2_with (first | rw [hC] | fail)
  rw [hw1.out]
  go_loopw [4, 5] (fun v i wr => ∃ k : Nat, k ≤ n ∧ i = .int .i64 (k : Int) ∧ wr.ownsRow (C + 1) 32 1 v k (((ls.map some).take k).map (sqV C)) ∧ Blk wr C 3 #[.int .i64 0] ∧ Below C w wr ∧ C + 1 ≤ wr.heap.size) (fun v i _ => n - (intOf i).toNat)
  case atStart => exact ⟨0, by omega, rfl, World.ownsRow_nil _ _ _ _, kC1, b1, by omega⟩
  case round =>
    clear kC1 b1 hs1
    obtain ⟨k, hk, rfl, hown, kC, hB, hsz⟩ := hrel
    by_cases hlt : k < n
    · have hkl : k < ls.length := by rw [hn.out]; exact hlt
      obtain ⟨b, o, rfl, _, hcc⟩ := (hrow.below (by rw [hC]; exact hB)).at_ hlt
      have hck := hcc k (slV ls[k]) (by rw [List.getElem?_map, List.getElem?_eq_getElem hkl]; rfl)
      obtain ⟨x, hx⟩ : ∃ x, ls[k] = x := ⟨_, rfl⟩
      rw [hx] at hck
      replace hck : wr.cell? ⟨b, o + k, none⟩ = some (.slice x.A x.fs.length x.c) := hck
      have htk : ((ls.map some).take (k + 1)).map (sqV C) = ((ls.map some).take k).map (sqV C) ++ [sqV C (some x)] := by
        rw [List.take_succ_eq_append_getElem (by rw [List.length_map]; exact hkl), List.map_append, List.getElem_map, hx]
        rfl
      obtain ⟨Ax, fx, cx⟩ := x
      simp only at hck
      obtain ⟨m, hm⟩ : ∃ m, fx.length = m := ⟨_, rfl⟩
      have hsv : sqV C (some ⟨Ax, fx, cx⟩) = .func (.func 10) #[.agg #[.slice Ax m cx, .pointer (some ⟨C, 0, none⟩)]] #[] := by rw [← hm]; rfl
      rw [hsv] at htk
      rw [hm] at hck
      have hone : ∀ u ∈ [Value.func (.func 10) #[.agg #[.slice Ax m cx, .pointer (some ⟨C, 0, none⟩)]] #[]], u.oneCell' = true := oneCell_one rfl
      have hdk : decide (k < n) = true := by simpa using hlt
      have hkk : (0 : Int) ≤ (k : Int) ∧ (k : Int) < (n : Int) := by omega
      replace htk := Lib.hid htk
      replace hsv := Lib.hid hsv
      replace hm := Lib.hid hm
      replace hone := Lib.hid hone
      clear hcc hx
      have hal := hown.alloc (.cells #[Value.func (.func 10) #[.agg #[.slice Ax m cx, .pointer (some ⟨C, 0, none⟩)]] #[]] 32)
      have kal := kC.alloc (.cells #[Value.func (.func 10) #[.agg #[.slice Ax m cx, .pointer (some ⟨C, 0, none⟩)]] #[]] 32)
      have bal := hB.alloc (by omega) (.cells #[Value.func (.func 10) #[.agg #[.slice Ax m cx, .pointer (some ⟨C, 0, none⟩)]] #[]] 32)
      have sal : C + 1 ≤ (wr.alloc (.cells #[Value.func (.func 10) #[.agg #[.slice Ax m cx, .pointer (some ⟨C, 0, none⟩)]] #[]] 32)).heap.size := by simp; omega
      have rdo := Rd.one wr 32 (Value.func (.func 10) #[.agg #[.slice Ax m cx, .pointer (some ⟨C, 0, none⟩)]] #[])
      replace hal := Lib.hid hal
      replace kal := Lib.hid kal
      replace bal := Lib.hid bal
      replace sal := Lib.hid sal
      replace rdo := Lib.hid rdo
      go_wp2_with (at_builtin; (refine wpList_app _ rfl (.tmp 12) (.tmp 19) rfl Try.underlying25 fnInfo rfl (by omega) hal.out rfl _ 1 1 rdo.out rfl hone.out (by unfold maxLen; omega) (by omega) sal.out ?_; intro v1 w2 hown1 hgrow1 _; have kC2 := kal.out.grown hgrow1 (own_neJ hal.out kal.out (by decide)); have hB2 := below_app bal.out hal.out (by omega) (by have := sal.out; omega) hgrow1; have hs2 := Nat.le_trans sal.out hgrow1.size))
      go_roundw
      case rel => exact ⟨k + 1, by omega, by go_num, by rw [htk.out]; exact hown1, kC2, hB2, hs2⟩
      case measure => simp [intOf]; omega
    · obtain rfl : k = n := by omega
      have hdk : decide (k < k) = false := by simp
      rw [List.take_of_length_le (by rw [hql.out]; exact Nat.le_refl _)] at hown
      obtain ⟨Av, cv, rfl⟩ := own_slice hown
      have po := of_any wr Av k cv C (ls.map some) hql.out (by omega) (Rd.of_own hown)
      replace po := Lib.hid po
      go_wp2_with fail
      refine po.out.mono ?_
      clear po
      rintro _ w3 ⟨rfl, A3, c3, kB3, ho3, b3⟩
      have hB3 := hB.trans (b3.mono (by omega))
      have kC3 := kC.below b3 kC.lt
      have pt := told_any w3 wr.heap.size A3 k c3 C (ls.map some) hql.out (by omega) kB3 (by omega) (Rd.of_own ho3) (fun a ha h0 => by
        have := (ho3.lt a.block (by rw [ha]; rfl)).1
        omega) (hfq.out w3 hB3) ⟨0, kC3⟩ out hM.out hol 1048576 (by omega) (by omega)
      have hdl := (dd_sub out).length_le
      rw [List.take_of_length_le (by omega)] at pt
      replace pt := Lib.hid pt
      replace hdl := Lib.hid hdl
      go_wp2_with fail
      refine pt.out.mono ?_
      clear pt
      rintro _ w4 ⟨v4, rfl, ho4, k4, _⟩
      obtain ⟨A4, c4, rfl⟩ := own_slice ho4
      have hB4 := hB3.trans (k4.below (by have := hB3.size; omega) (fun x e => by omega))
      have hbs := hB3.size
      rw [hC] at hbs
      go_wp2
      go_ret
      exact ⟨A4, c4, rfl, own_base ho4 hbs, hB4⟩
end Go.Proofs.Ytnlmchbigpjamaa
