/- Walks of varints.groups, its iterator, slices.Clone, slices.Clip, varints.Put. -/
import Derived.Test.YtccbldlnfaiphaaDoorTwinB
import Derived.Test.YtccbldlnfaiphaaDoorApp
import Derived.Test.YtccbldlnfaiphaaDoorCap
import Derived.Test.YtccbldlnfaiphaaDoorVar
import Derived.RangeFuncNested
import Derived.RangeFuncBound
import Derived.RangeFuncCalls
import Derived.RangeFuncLeaves
import Derived.Shelf.Abstract
import Derived.Shelf.RegionOpen
import Derived.Lib.SliceRun
import Derived.WalkKit
import Derived.OwnWalkIn
import Derived.TacticsInMore
import Derived.LoopNIn
import Derived.LoopIn
set_option linter.unusedSimpArgs false
set_option linter.unusedVariables false
namespace Go.Proofs.YtccbldlnfaiphaaDoor
open Go Go.RowKit Go.Shelf Herb
attribute [local go_sem] Oper.semAt_some

def encP (x : Fin 128 × Bool) : Array Value := #[.int .u8 (x.1.val : Int), .bool x.2]

set_option maxRecDepth 100000 in
set_option maxHeartbeats 1000000 in
theorem iter_in (F : Fence) (n : Nat) (hF : F.fn 66) (hro : F.round = none) (hn : 1 ≤ n) (l C m : Nat) (hm : m < 18446744073709551616) (J : List (Fin 128 × Bool) → World → Prop)
    (hJC : ∀ s A v, J s A → C < A.heap.size → J s (A.setCell ⟨C, 0, none⟩ v))
    (hY : ∀ pre x W1, J pre W1 → pre.length < (gs m).length → YieldAt F (n - 1) Tryd.prog l (encP x) W1 fun e W' => e = .returned (.bool true) ∧ J (pre ++ [x]) W' ∧ W'.heap[C]? = W1.heap[C]?)
    (W : World) (hC : Boxed W C 22 (.int .u64 m)) (h0 : J [] W) :
    CallsIn F n Tryd.prog 66 #[.func (.yield l) #[] #[], .pointer (some ⟨C, 0, none⟩)] W fun e W' => (∃ v, e = .returned v) ∧ J (gs m) W' := by
  refine callsIn_of_wp Tryd.func66 rfl hF ?_ hro
  simp only [Tryd.ntmps66, List.size_toArray, List.length_cons, List.length_nil, Nat.reduceAdd, Nat.reduceSub, Array.replicate_succ, Array.replicate_zero, List.push_toArray, List.append_toArray, List.nil_append, List.cons_append]
  gi_wp2
  gi_loopw [3] (fun _ wr => ∃ (pre : List (Fin 128 × Bool)) (k : Nat), k < 18446744073709551616 ∧ Boxed wr C 22 (.int .u64 k) ∧ gs m = pre ++ gs k ∧ J pre wr)
    (fun _ wr => match wr.cell? ⟨C, 0, none⟩ with | some v => (intOf v).toNat | none => 0)
  case atStart => exact ⟨[], m, hm, hC, rfl, h0⟩
  case round =>
    obtain ⟨pre, k, hk, hb, hx, hJs⟩ := hrel
    have hc := hb.cell
    obtain ⟨fn, tmps, assign, body, hy, hR⟩ := hY pre (⟨k % 128, Nat.mod_lt _ (by omega)⟩, decide (128 ≤ k)) wr hJs (by rw [hx]; have := gs_pos k; simp; omega)
    have ea : encP (⟨k % 128, Nat.mod_lt _ (by omega)⟩, decide (128 ≤ k)) = #[.int .u8 ((k : Int) % 128), .bool (decide (128 ≤ (k : Int)))] := by
      unfold encP
      rw [show ((k % 128 : Nat) : Int) = (k : Int) % 128 by omega, show decide (128 ≤ k) = decide (128 ≤ (k : Int)) from decide_eq_decide.2 (by omega)]
    rw [ea] at hy
    clear ea
    by_cases h1 : 128 ≤ k
    · gi_wp2
      refine hR.mono ?_
      rintro e W3 ⟨rfl, hJ3, hk3⟩
      have hb3 : Boxed W3 C 22 (.int .u64 k) := hk3.trans hb
      have hc3 := hb3.cell
      have hf3 := hb3.frozen
      gi_wp2
      go_roundw
      case rel => exact ⟨pre ++ [(⟨k % 128, Nat.mod_lt _ (by omega)⟩, decide (128 ≤ k))], k / 128, by omega, hb3.set _, by rw [hx, gs_ge h1, decide_eq_true h1]; simp, hJC _ _ _ hJ3 hb3.lt⟩
      case measure => simp [(hb3.set _).cell, hc, intOf]; omega
    · gi_wp2
      refine hR.mono ?_
      rintro e W3 ⟨rfl, hJ3, hk3⟩
      have hb3 : Boxed W3 C 22 (.int .u64 k) := hk3.trans hb
      have hc3 := hb3.cell
      gi_wp2
      go_end0
      refine ⟨⟨_, rfl⟩, ?_⟩
      rw [hx, gs_lt (by omega)]
      rw [decide_eq_false h1] at hJ3
      exact hJ3

theorem groups_in (F : Fence) (n : Nat) (hF : F.fn 55) (hro : F.round = none) (m : Nat) (w : World) :
    CallsIn F n Tryd.prog 55 #[.int .u64 m] w fun e w' => e = .returned (.func (.func 66) #[] #[.pointer (some ⟨w.heap.size, 0, none⟩)]) ∧ w' = w.alloc (.cells #[.int .u64 m] 22) := by
  refine callsIn_of_wp Tryd.func55 rfl hF ?_ hro
  simp only [Tryd.ntmps55, List.size_toArray, List.length_cons, List.length_nil, Nat.reduceAdd, Nat.reduceSub, Array.replicate_succ, Array.replicate_zero, List.push_toArray, List.append_toArray, List.nil_append, List.cons_append]
  gi_wp2
  go_ret
  exact ⟨rfl, rfl⟩

theorem groups_cap (F : Fence) (n : Nat) (hF : F.fn 66) (hro : F.round = none) (hn : 1 ≤ n) (C m : Nat) (hm : m < 18446744073709551616) :
    SeqCap F n Tryd.prog 66 C 22 (.int .u64 m) encP (gs m) := fun l J W hC hJC hY h0 => iter_in F n hF hro hn l C m hm J hJC hY W hC h0

/-- slices.Clip: the room behind is cut off. -/
theorem clip_any (A : Option Addr) (n c : Nat) (hn : n ≤ c) (w : World) :
    Calls Tryd.prog 30 #[.slice A n c] w fun e w' => e = .returned (.slice A n n) ∧ w = w' := by
  go_enter Tryd.func30, Tryd.ntmps30
  go_wp2
  go_ret
  exact ⟨rfl, rfl⟩

/-- slices.Clone: a row of one's own with the same bytes. -/
theorem clone_any (w : World) (A : Option Addr) (n c : Nat) (l : List UInt8) (hln : l.length = n) (hn : n ≤ 140737488355328) (hb : Bs w A l) :
    Calls Tryd.prog 54 #[.slice A n c] w fun e w' => ∃ v, e = .returned v ∧ w'.ownsRow w.heap.size 5 1 v n (bvs l) ∧ Below w.heap.size w w' := by
  subst hln
  have q : ∀ (w : World) (a : Option Addr) (n c n' c' : Nat), (binOp .eql 30 (.slice a n c) (.slice none n' c')).run Tryd.prog w = .ok (.bool a.isNone) w := fun w a n c n' c' => Lib.run_eql_slice_nil w _ _ a n c n' c' Tryd.underlying30
  go_enter Tryd.func54, Tryd.ntmps54
  rcases A with _ | a
  · have hl0 : l = [] := by
      rcases l with _ | ⟨c, l⟩
      · rfl
      · obtain ⟨_, _, h, _⟩ := hb.2 (by simp)
        cases h
    subst hl0
    go_wp2
    go_ret
    exact ⟨_, rfl, World.ownsRow_nil _ _ _ _, Below.refl _ _⟩
  · go_wp2_with (at_builtin; refine wpList_app _ rfl _ _ rfl Tryd.underlying30 info_u8 rfl (by omega) (World.ownsRow_made w #[] 0 (Nat.le_refl _) (Nat.zero_le _) rfl) rfl _ l.length c (hb.alloc _) rfl (bvs_one l) (by unfold maxLen; omega) (by omega) (by simp) ?_; intro v1 w1 hown1 hgrow1 hlie1)
    rw [Nat.zero_add, List.nil_append] at hown1
    go_wp2
    go_ret
    exact ⟨_, rfl, hown1, ((Below.refl _ w).alloc (Nat.le_refl _) _).grown hgrow1 (by simp) (fun j hj => by simp [Value.ownBlock] at hj; omega)⟩

theorem own_base {w : World} {base base' : Nat} {e : TypeId} {size n : Nat} {v : Value} {xs : List Value} (h : w.ownsRow base e size v n xs) (hb : base' ≤ base) : w.ownsRow base' e size v n xs :=
  ⟨h.1, h.2.imp id fun ⟨g, cap, cur, e1, e2, rest⟩ => ⟨g, cap, cur, e1, by omega, rest⟩⟩
theorem own_len {w : World} {base : Nat} {e : TypeId} {size n n' : Nat} {v : Value} {xs : List Value} (h : w.ownsRow base e size v n xs) (hn : n' = n) : w.ownsRow base e size v n' xs := hn ▸ h
theorem low_or0 (x : Fin 128 × Bool) (h : x.2 = true) : bits .or .u8 (x.1.val : Int) 128 = ((low x).toNat : Int) := by
  have e := u8_or_nat x.1.val 128 (by omega) (by omega)
  rw [low_nat, if_pos h]
  have e2 : x.1.val ||| 128 = x.1.val + 128 := by
    have := x.1.isLt
    revert this
    generalize x.1.val = k
    intro hk
    rw [Nat.or_comm, ← Nat.two_pow_add_eq_or_of_lt (i := 7) hk 1]
    omega
  rw [← e2]
  exact e

set_option maxRecDepth 100000 in
set_option maxHeartbeats 2000000 in
/-- varints.Put: the bytes, and the number's behind them, in a row of the call's own without room behind. -/
theorem put_any (w : World) (A : Option Addr) (n c : Nat) (l : List UInt8) (hln : l.length = n) (hnc : n ≤ c) (hn : n ≤ 140737488355000) (hb : Bs w A l) (m : Nat) (hm : m < 18446744073709551616) :
    Calls Tryd.prog 28 #[.slice A n c, .int .u64 m] w fun e w' => ∃ k g cap, (l ++ enc m).length = k ∧ e = .returned (.slice (some ⟨g, 0, none⟩) k k) ∧ w'.ownsRow w.heap.size 5 1 (.slice (some ⟨g, 0, none⟩) k cap) k (bvs (l ++ enc m)) ∧ Below w.heap.size w w' := by
  have h0 : (0 : Nat) = 0 := rfl
  obtain ⟨i0, hi, hz0, hz1, hz2⟩ := info_parts info_u8
  refine (callsIn_wide (n := 9)).1 ?_
  refine callsIn_of_wp_marks Tryd.func28 rfl trivial ?_ rfl
  simp only [Tryd.ntmps28, List.size_toArray, List.length_cons, List.length_nil, Nat.reduceAdd, Nat.reduceSub, Array.replicate_succ, Array.replicate_zero, List.push_toArray, List.append_toArray, List.nil_append, List.cons_append]
  have bO := Boxed.new w 30 (.slice A n c)
  have hOc := bO.cell
  have hOf := bO.frozen
  have hB1 := (Below.refl w.heap.size w).alloc (Nat.le_refl _) (.cells #[.slice A n c] 30)
  gi_wp2_with fail
  refine ⟨trivial, (callsIn_wide.2 (clone_any _ A n c l hln (by omega) (hb.alloc _))).mono ?_⟩
  rintro _ wc ⟨v, rfl, hown, hBc⟩
  obtain ⟨Av, cv, rfl⟩ := own_slice hown
  have hbx : Boxed wc w.heap.size 30 (.slice A n c) := (hBc.block _ (by simp)).trans bO
  have hxc := hbx.cell
  have hxf := hbx.frozen
  have hB2 := hB1.trans (hBc.mono (by simp))
  gi_wp2_with fail
  refine ⟨trivial, (groups_in _ _ trivial rfl m _).mono ?_⟩
  rintro _ wd ⟨rfl, rfl⟩
  gi_wp2_with fail
  have hCb := Boxed.new (wc.setCell ⟨w.heap.size, 0, none⟩ (.slice Av n cv)) 22 (.int .u64 m)
  have hsz : (wc.setCell ⟨w.heap.size, 0, none⟩ (.slice Av n cv)).heap.size = wc.heap.size := by simp
  rw [hsz] at hCb
  have hlt : w.heap.size < wc.heap.size := by have := hBc.size; simp at this; omega
  have hBox := (hbx.set (.slice Av n cv)).alloc (.cells #[.int .u64 m] 22)
  have hOwn := ((own_base hown (show w.heap.size ≤ _ by simp)).kept (grownBy_setCell' wc w.heap.size (.slice Av n cv)) (.inr (hbx.not_row (by decide) hown).symm)).alloc (.cells #[.int .u64 m] 22)
  have hB3 := (hB2.setCell (p := ⟨w.heap.size, 0, none⟩) (Nat.le_refl _) (.slice Av n cv)).alloc (by simp; omega) (.cells #[.int .u64 m] 22)
  generalize hW0 : (wc.setCell ⟨w.heap.size, 0, none⟩ (.slice Av n cv)).alloc (.cells #[.int .u64 m] 22) = W0 at *
  have hW0s : W0.heap.size = wc.heap.size + 1 := by rw [← hW0]; simp
  have hlen := gs_len64 hm
  refine wpIn_range_cap rfl (by omega) (gf := 66) (C := wc.heap.size) rfl trivial (enters_of Tryd.func66 (by kernel_rfl) rfl)
    (groups_cap _ _ trivial rfl (by omega) wc.heap.size m hm) hCb (fun _ => rfl)
    (fun pre W => (∃ v, Boxed W w.heap.size 30 v ∧ W.ownsRow w.heap.size 5 1 v (n + pre.length) (bvs (l ++ pre.map low)) ∧ True) ∧ (∃ u, Boxed W wc.heap.size 22 u) ∧ Below w.heap.size w W)
    (OwnFrom.and (Own.from (holdsRow_own w.heap.size w.heap.size 30 5 1 (fun pre : List (Fin 128 × Bool) => n + pre.length) (fun pre => bvs (l ++ pre.map low)) (fun _ _ => True)) _)
      (OwnFrom.and (Own.from (fun s X Y row ⟨u, hu⟩ hg hr => ⟨u, boxed_own wc.heap.size 22 (fun _ : Unit => u) () X Y row hu hg hr⟩) _) (ownFrom_below (Nat.le_refl _) (by omega))))
    (fun s A v ⟨⟨v', h1, h2, _⟩, ⟨u, h3⟩, h4⟩ _ => ⟨⟨v', h1.other (by omega) v, h2.kept (grownBy_setCell' A wc.heap.size v) (.inr (h3.not_row (by decide) h2).symm), trivial⟩, ⟨v, h3.set v⟩, h4.setCell (p := ⟨wc.heap.size, 0, none⟩) (by simp; omega) v⟩)
    ⟨⟨_, hBox, by simpa using hOwn, trivial⟩, ⟨_, hCb⟩, hB3⟩
    (fun x => { tmps := #[.slice A n c, .int .u64 m, .pointer (some ⟨w.heap.size, 0, none⟩), undef, .slice none 0 0, .int .u8 (x.1.val : Int), .bool x.2, .slice A n c, .slice Av n cv, .int .u64 m, .func (.func 66) #[] #[.pointer (some ⟨wc.heap.size, 0, none⟩)], .int .u8 (x.1.val : Int), .bool x.2, undef, undef, undef, undef, undef, undef, undef, undef, undef], defers := [] }) ?assign ?body ?done
  case assign =>
    intro l x W K hK
    simp only [encP]
    gi_wp2
    exact hK
  case body =>
    rintro lp pre ⟨lw, on⟩ W ⟨⟨v, hv, hrow, _⟩, ⟨u, hu⟩, hB⟩ hlt
    obtain ⟨Ar, cr, rfl⟩ := own_slice hrow
    have hc := hv.cell
    have hlw := lw.isLt
    have hbl : bvs (l ++ (pre ++ [(lw, on)]).map low) = bvs (l ++ pre.map low) ++ [.int .u8 ((low (lw, on)).toNat : Int)] := by rw [bvs_snoc]; simp
    have hpl : (pre ++ [(lw, on)]).length = pre.length + 1 := by simp
    have hno := low_nat (lw, on)
    generalize hz : low (lw, on) = z at *
    cases on
    · simp only [Bool.false_eq_true, if_false] at hno
      gi_wp2_with (gi_at_builtin; refine wpListIn_append_own _ rfl _ _ 30 rfl w.heap.size 5 i0 (.int .u8 0) 1 1 Tryd.underlying30 hi hz0 hz1 hz2 rfl (by decide) _ _ _ rfl (hrow.alloc _) ⟨W.heap.size, 0, none⟩ 1 1 [.int .u8 (lw.val : Int)] rfl rfl (cell_one_new _ _ _) (by simp [Value.oneCell']) (by unfold maxLen; omega) (by omega) (by have := hB.size; simp; omega) ?_; intro v' w1 hown' hgrow _; obtain ⟨g', cap', rfl⟩ := ownsRow_succ hown'; obtain ⟨hv1, hv2, hr2, hk2, hb2⟩ := hv.appended (by decide) hrow hB.size (Nat.le_refl _) hown' hgrow; have hc1 := hv1.cell; have hf1 := hv1.frozen)
      have hu1 : Boxed w1 wc.heap.size 22 u := (hu.alloc _).kept hgrow (hu.not_row (by decide) hrow)
      rw [← hno, ← hbl] at hr2
      have hr3 : (w1.setCell ⟨w.heap.size, 0, none⟩ (.slice (some ⟨g', 0, none⟩) (n + pre.length + 1) cap')).ownsRow w.heap.size 5 1 (.slice (some ⟨g', 0, none⟩) (n + pre.length + 1) cap') (n + (pre ++ [(lw, false)]).length) _ := own_len hr2 (by rw [hpl]; omega)
      first
        | exact ⟨hk2.from _, (hu1.other (by omega) _).trans hu.symm, ⟨_, hv2, hr3, trivial⟩, ⟨u, hu1.other (by omega) _⟩, hB.trans hb2⟩
        | exact ⟨hk2.from _, (hu1.other (by omega) _).trans hu.symm, ⟨_, hv2, hr3⟩, ⟨u, hu1.other (by omega) _⟩, hB.trans hb2⟩
        | go_show
    · simp only [if_true] at hno
      have hno' : ((z.toNat : Nat) : Int) = (lw.val : Int) + 128 := by omega
      have hor := low_or0 (lw, true) rfl
      rw [hz, hno'] at hor
      gi_wp2_with (gi_at_builtin; refine wpListIn_append_own _ rfl _ _ 30 rfl w.heap.size 5 i0 (.int .u8 0) 1 1 Tryd.underlying30 hi hz0 hz1 hz2 rfl (by decide) _ _ _ rfl (hrow.alloc _) ⟨W.heap.size, 0, none⟩ 1 1 [.int .u8 ((lw.val : Int) + 128)] rfl rfl (cell_one_new _ _ _) (by simp [Value.oneCell']) (by unfold maxLen; omega) (by omega) (by have := hB.size; simp; omega) ?_; intro v' w1 hown' hgrow _; obtain ⟨g', cap', rfl⟩ := ownsRow_succ hown'; obtain ⟨hv1, hv2, hr2, hk2, hb2⟩ := hv.appended (by decide) hrow hB.size (Nat.le_refl _) hown' hgrow; have hc1 := hv1.cell; have hf1 := hv1.frozen)
      have hu1 : Boxed w1 wc.heap.size 22 u := (hu.alloc _).kept hgrow (hu.not_row (by decide) hrow)
      rw [← hno', ← hbl] at hr2
      have hr3 : (w1.setCell ⟨w.heap.size, 0, none⟩ (.slice (some ⟨g', 0, none⟩) (n + pre.length + 1) cap')).ownsRow w.heap.size 5 1 (.slice (some ⟨g', 0, none⟩) (n + pre.length + 1) cap') (n + (pre ++ [(lw, true)]).length) _ := own_len hr2 (by rw [hpl]; omega)
      first
        | exact ⟨hk2.from _, (hu1.other (by omega) _).trans hu.symm, ⟨_, hv2, hr3, trivial⟩, ⟨u, hu1.other (by omega) _⟩, hB.trans hb2⟩
        | exact ⟨hk2.from _, (hu1.other (by omega) _).trans hu.symm, ⟨_, hv2, hr3⟩, ⟨u, hu1.other (by omega) _⟩, hB.trans hb2⟩
        | go_show
  case done =>
    rintro D W hD ⟨⟨v, hv, hrow, _⟩, ⟨u, hu⟩, hB⟩ hK
    have hel : (l ++ enc m).length = n + (gs m).length := by rw [List.length_append, hln, enc, List.length_map]
    rw [show (gs m).map low = enc m from rfl] at hrow
    obtain ⟨k, hk⟩ : ∃ k, n + (gs m).length = k + 1 := ⟨n + (gs m).length - 1, by have := gs_pos m; omega⟩
    rw [hk] at hrow hel
    obtain ⟨g', cap', rfl⟩ := ownsRow_succ hrow
    have hcap : k + 1 ≤ cap' := by
      rcases hrow.2 with ⟨h, _⟩ | ⟨_, _, _, h, _, _, h2, _⟩
      · cases h
      · cases h; exact h2
    have hc := hv.cell
    gi_wp2_with fail
    refine ⟨trivial, (callsIn_wide.2 (clip_any (some ⟨g', 0, none⟩) (k + 1) cap' hcap W)).mono ?_⟩
    rintro _ we ⟨rfl, rfl⟩
    gi_wp2
    refine ⟨by simp, .inl ⟨_, _, rfl, run_takeDeferred hK, ?_⟩⟩
    exact ⟨_, results_tmp rfl _ _ _, k + 1, g', cap', hel, rfl, ownsRow_putObj hrow _ hK rfl, hB.trans (belowK_b (w := w) (Nat.le_refl _) W D _ _ (by omega) hK rfl rfl)⟩
