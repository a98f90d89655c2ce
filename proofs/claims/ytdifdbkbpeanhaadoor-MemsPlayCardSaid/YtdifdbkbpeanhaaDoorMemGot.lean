/- The walk of got. -/
import Derived.Test.YtdifdbkbpeanhaaDoorMemFacts
set_option linter.unusedSimpArgs false
set_option linter.unusedVariables false
namespace Go.Proofs.YtdifdbkbpeanhaaDoor
open Go Go.RowKit Go.Shelf Herb
attribute [local go_sem] Oper.semAt_some
theorem func_nilF (W : World) (t : TypeId) (ht : t = 65) (k : FuncId) (x y z : Value) : (binOp .eql t (.func (.func k) #[] #[x, y, z]) .nilFunc).run Tryd.prog W = .ok (.bool false) W := by
  subst ht
  kernel_rfl
theorem typF_after {W w3 : World} {O n0 n : Nat} {v : Value} {xs : List Value} {ob : Obj} (hv : Boxed W O 36 v) (hrow : W.ownsRow n0 27 6 v n xs) (hgrow : (W.alloc ob).grownBy w3 v.ownBlock) (u : Value) :
    ∀ (k : Nat) (cs : Array Value) (t : TypeId) (fr : Nat × Nat), W.heap[k]? = some (Obj.cells cs t fr) → t ≠ 27 → t ≠ 36 → (w3.setCell ⟨O, 0, none⟩ u).heap[k]? = some (Obj.cells cs t fr) := fun k cs t fr hk h1 h2 => by
  have hlt := (Array.getElem?_eq_some_iff.1 hk).1
  have hk1 := (Below.heap_alloc W ob k hlt).trans hk
  refine (heap_setCell_other w3 ⟨O, 0, none⟩ k _ (fun e => ?_)).trans ((hgrow.block k (by simp; omega) (own_neF (hrow.alloc _) hk1 h1)).trans hk1)
  have hv' : W.heap[O]? = _ := hv
  rw [e, hv'] at hk
  injection hk with hk
  injection hk with _ ht _
  exact h2 ht.symm
set_option maxRecDepth 100000 in
set_option maxHeartbeats 3200000 in
theorem got_any (base q p g cap : Nat) (A : Option Addr) (M : List (List UInt8 × Int)) (fs : List Ft) (b : Int) (fr : Bool) (w : World) (h : MemAt w base q p g A cap M fs b fr) (hM : M.length ≤ 100000) (k : ByteArray) (va : Nat) (hva : va < 4294967296) (hk : k.size ≤ 10000) (most : Nat) (hm1 : 1 ≤ most) (hm2 : most ≤ 100000) :
    Calls Tryd.prog 18 #[.pointer (some ⟨q, 0, none⟩), .string k, .int .u32 (va : Int), .int .i64 (most : Int)] w fun e w' => ∃ v, e = .returned v ∧ w'.ownsRow w.heap.size 27 6 v ((placed fs (fromM M (seekL k va))).take most).length (ftC ((placed fs (fromM M (seekL k va))).take most)) ∧ Below w.heap.size w w' := by
  obtain ⟨xs, hxs⟩ : ∃ xs, placed fs (fromM M (seekL k va)) = xs := ⟨_, rfl⟩
  have hxl : xs.length ≤ 100000 := by
    rw [← hxs]
    unfold placed fromM
    rw [List.length_map]
    exact Nat.le_trans (List.dropWhile_sublist _).length_le hM
  rw [hxs]
  refine (callsIn_wide (n := 9)).1 ?_
  refine callsIn_of_wp_marks Tryd.func18 rfl trivial ?_ rfl
  simp only [Tryd.ntmps18, List.size_toArray, List.length_cons, List.length_nil, Nat.reduceAdd, Nat.reduceSub, Array.replicate_succ, Array.replicate_zero, List.push_toArray, List.append_toArray, List.nil_append, List.cons_append]
  have hnil := fun W => func_nilF W _ rfl 50
  gi_wp2_with fail
  refine ⟨trivial, callsIn_wide.2 ((mfrom_any _ (some ⟨q, 0, none⟩) k va).mono ?_)⟩
  rintro _ w3 ⟨rfl, h1, h2, h3, b3⟩
  have bO : Boxed w3 (w.heap.size + 1) 36 (.slice none 0 0) := (b3.block _ (by simp)).trans (by have := Boxed.new (w.alloc (.cells #[.int .i64 (most : Int)] 3)) 36 (.slice none 0 0); rwa [World.size_alloc] at this)
  have bM : Boxed w3 w.heap.size 3 (.int .i64 (most : Int)) := (b3.block _ (by simp; omega)).trans ((Boxed.new w 3 (.int .i64 (most : Int))).alloc (.cells #[.slice none 0 0] 36))
  have b0 : Below w.heap.size w w3 := (((Below.refl w.heap.size w).alloc (Nat.le_refl _) (.cells #[.int .i64 (most : Int)] 3)).alloc (by simp) (.cells #[.slice none 0 0] 36)).trans (b3.mono (by simp; omega))
  have hs3 : w.heap.size + 5 ≤ w3.heap.size := by have := h3.lt; simp at this; omega
  simp only [World.size_alloc] at h1 h2 h3
  have hseq := mfrom_seq 8 base q p g cap A M fs b fr w h hM k va hva hk _ _ _ w3 b0 h1 h2 h3
  rw [hxs] at hseq
  clear hxs b3 h1 h2 h3
  gi_wp2_with (first | rw [hnil] | fail)
  obtain ⟨i0, hi, hz0, hz1, hz2⟩ := info_parts ftInfo
  refine wpIn_range_F rfl (by omega) (gf := 50) (lb := #[.pointer (some ⟨w.heap.size + 1 + 1, 0, none⟩), .pointer (some ⟨w.heap.size + 1 + 1 + 1, 0, none⟩), .pointer (some ⟨w.heap.size + 1 + 1 + 2, 0, none⟩)]) rfl trivial (enters_of Tryd.func50 (by kernel_rfl) rfl) hseq (fun h k => h.trans k)
    (fun W' o o' hl hc hw => ⟨belowK_b b0.size W' _ o o' (by omega) hl hc hw, ⟨by simp, fun k o2 hk ho2 hc2 => (World.putObj_heap_other (by omega)).trans ho2⟩, fun k cs t fr hk _ _ => (World.putObj_heap_other (fun e => by subst e; rw [hl] at hk; cases hk; cases hc)).trans hk⟩)
    (Below.refl _ _) (fun x vs W he => by rw [he]; rfl) (fun x vs => ownFrom_pure _ _)
    (fun pre W => (∃ v, Boxed W (w.heap.size + 1) 36 v ∧ W.ownsRow w.heap.size 27 6 v pre.length (ftC pre) ∧ pre.length < most) ∧ Below w.heap.size w W ∧ Boxed W w.heap.size 3 (.int .i64 (most : Int)))
    (fun cd pre W => (∃ v, Boxed W (w.heap.size + 1) 36 v ∧ W.ownsRow w.heap.size 27 6 v pre.length (ftC pre) ∧ (pre.length = most ∧ cd = .exit 0)) ∧ Below w.heap.size w W)
    (OwnFrom.and (Own.from (holdsRow_own _ _ _ _ _ (fun pre => pre.length) (fun pre => ftC pre) (fun pre _ => pre.length < most)) _) (OwnFrom.and (ownFrom_below (Nat.le_refl _) b0.size) (fun s X Y row hb hg hr => blk_own (β := Unit) _ _ _ _ () X Y row hb hg hr)))
    (fun cd => OwnFrom.and (Own.from (holdsRow_own _ _ _ _ _ (fun pre => pre.length) (fun pre => ftC pre) (fun pre _ => pre.length = most ∧ cd = .exit 0)) _) (ownFrom_below (Nat.le_refl _) b0.size))
    ⟨⟨_, bO, World.ownsRow_nil _ _ _ _, hm1⟩, b0, bM⟩
    (fun vs a' W => ∃ (f : Ft) (Bx : Nat), vs = #[f.val] ∧ Blk W Bx 27 #[.string f.k, .int .u32 (f.va : Int), .int .u64 (f.se : Int), .int .u64 (f.li : Int), .int .u8 (f.ki : Int), .string f.v] ∧
      a' = { tmps := #[.pointer (some ⟨q, 0, none⟩), .string k, .int .u32 (va : Int), .int .i64 (most : Int), undef, undef, undef, .pointer (some ⟨w.heap.size, 0, none⟩), .slice none 0 0, .pointer (some ⟨w.heap.size + 1, 0, none⟩), .func (.func 50) #[] #[.pointer (some ⟨w.heap.size + 1 + 1, 0, none⟩), .pointer (some ⟨w.heap.size + 1 + 1 + 1, 0, none⟩), .pointer (some ⟨w.heap.size + 1 + 1 + 2, 0, none⟩)], .pointer (some ⟨Bx, 0, none⟩), .pointer (some ⟨q, 0, none⟩), .string k, .int .u32 (va : Int), .func (.func 50) #[] #[.pointer (some ⟨w.heap.size + 1 + 1, 0, none⟩), .pointer (some ⟨w.heap.size + 1 + 1 + 1, 0, none⟩), .pointer (some ⟨w.heap.size + 1 + 1 + 2, 0, none⟩)], .func (.func 50) #[] #[.pointer (some ⟨w.heap.size + 1 + 1, 0, none⟩), .pointer (some ⟨w.heap.size + 1 + 1 + 1, 0, none⟩), .pointer (some ⟨w.heap.size + 1 + 1 + 2, 0, none⟩)], .bool false, .func (.func 50) #[] #[.pointer (some ⟨w.heap.size + 1 + 1, 0, none⟩), .pointer (some ⟨w.heap.size + 1 + 1 + 1, 0, none⟩), .pointer (some ⟨w.heap.size + 1 + 1 + 2, 0, none⟩)], f.val, undef, undef, undef, undef, undef, undef, undef, undef, undef], defers := [] })
    ?hax ?assign ?body ?done ?stop
  case hax =>
    rintro vs a' _ X Y row ⟨f, Bx, h1, h2, h3⟩ hg hr
    exact ⟨f, Bx, h1, blk_own (β := Unit) _ _ _ _ () X Y row h2 hg hr, h3⟩
  case assign =>
    rintro l pre f vs W K ⟨⟨v, hv, hrow, hlt⟩, hB, hM⟩ rfl hK
    gi_wp2
    exact hK _ _ ((KeepsOthers.alloc _ _).from _) (KpF.alloc _ _ _ _ hB.size) ⟨⟨v, (Below.heap_alloc W _ _ hv.lt).trans hv, hrow.alloc _, hlt⟩, hB.alloc hB.size _, hM.alloc _⟩ rfl ⟨f, W.heap.size, rfl, Blk.new W _ _, rfl⟩
  case body =>
    rintro l pre f vs a' W hl ⟨⟨v, hv, hrow, hlt⟩, hB, hM⟩ hpx rfl ⟨f', Bx, hf, hbx, rfl⟩
    obtain rfl : f' = f := Ft.val_inj (by
      injection hf with hf
      injection hf with hf _
      exact hf.symm)
    have hpl : pre.length + 1 ≤ 1000000 := by have := hpx.length_le; simp at this; omega
    have hvc := hv.cell
    have cx := hbx.cell
    have hMl := hM.lt
    have hne : 36 ≠ 27 := by decide
    have hnew := (Blk.new W 27 #[.string f'.k, .int .u32 (f'.va : Int), .int .u64 (f'.se : Int), .int .u64 (f'.li : Int), .int .u8 (f'.ki : Int), .string f'.v]).cell
    have hsn : ftC pre ++ f'.cells = ftC (pre ++ [f']) := by rw [ftC_append]; simp [ftC]
    replace hnew := Lib.hid hnew
    replace hsn := Lib.hid hsn
    gi_wp2_with (gi_at_builtin; refine wpListIn_append_own _ rfl _ _ 36 rfl w.heap.size 27 i0 _ 6 64 Tryd.underlying36 hi hz0 hz1 hz2 rfl (by decide) _ _ _ rfl (hrow.alloc _) ⟨W.heap.size, 0, none⟩ 1 1 f'.cells rfl rfl (fun j u hu => by rw [add_eq, Nat.zero_add]; exact (hnew.out j).trans (by simpa [Ft.cells] using hu)) (by intro u hu; exact ftC_one [f'] u (by simpa [ftC] using hu)) (by unfold maxLen; omega) (by omega) (by have := hB.size; simp; omega) ?_; intro v' w3 hown' hgrow _; obtain ⟨g', cap', rfl⟩ := ownsRow_succ hown'; obtain ⟨hv1, hv2, hr2, hk2, hb2⟩ := hv.appended hne hrow hB.size (by omega) hown' hgrow; have hc1 := hv1.cell; have hf1 := hv1.frozen; have hc2 := hv2.cell; have htyp := typF_after hv hrow hgrow (.slice (some ⟨g', 0, none⟩) (pre.length + 1) cap'); have hM4 : Boxed (w3.setCell ⟨w.heap.size + 1, 0, none⟩ (.slice (some ⟨g', 0, none⟩) (pre.length + 1) cap')) w.heap.size 3 (.int .i64 (most : Int)) := htyp _ _ _ _ hM (by decide) (by decide); have cM4 := hM4.cell)
    · rename_i hlm
      replace hlm : pre.length + 1 = most := by simp at hlm; omega
      rw [hsn.out] at hr2
      exact ⟨hk2.from _, ⟨hb2, hk2.from _, htyp⟩, ⟨_, hv2, by simpa using hr2, by simpa using hlm, rfl⟩, hB.trans hb2⟩
    · rename_i hlm
      replace hlm : ¬ (pre.length + 1 = most) := by simp at hlm; omega
      rw [hsn.out] at hr2
      exact ⟨hk2.from _, ⟨hb2, hk2.from _, htyp⟩, ⟨_, hv2, by simpa using hr2, by have := hlm; simp; omega⟩, hB.trans hb2, hM4⟩
  case done =>
    rintro D W hD ⟨⟨v, hv, hrow, hlt⟩, hB, hM⟩ hK
    have hvc := hv.cell
    gi_wp2
    refine ⟨by simp, .inl ⟨_, _, rfl, run_takeDeferred hK, ?_⟩⟩
    refine ⟨_, results_tmp rfl _ _ _, v, rfl, ?_, ?_⟩
    · rw [List.take_of_length_le (by omega)]
      exact hrow.kept (grownBy_putObj' _ D _) (by
        rcases hrow.2 with ⟨rfl, _⟩ | ⟨g', cap', cur, rfl, _, hg, _⟩
        · exact .inl rfl
        · refine .inr (fun e => ?_)
          simp only [Value.ownBlock] at e
          cases e
          rw [hK] at hg
          cases hg)
    · exact hB.trans (belowK_b (w := w3) b0.size W D _ _ hD hK rfl rfl)
  case stop =>
    rintro D c pre W hD hpx ⟨⟨v, hv, hrow, hlt, rfl⟩, hB⟩ hK
    have hvc := hv.cell
    gi_wp2
    refine ⟨by simp, .inl ⟨_, _, rfl, run_takeDeferred hK, ?_⟩⟩
    refine ⟨_, results_tmp rfl _ _ _, v, rfl, ?_, ?_⟩
    · rw [← hlt, ← List.prefix_iff_eq_take.1 hpx]
      exact hrow.kept (grownBy_putObj' _ D _) (by
        rcases hrow.2 with ⟨rfl, _⟩ | ⟨g', cap', cur, rfl, _, hg, _⟩
        · exact .inl rfl
        · refine .inr (fun e => ?_)
          simp only [Value.ownBlock] at e
          cases e
          rw [hK] at hg
          cases hg)
    · exact hB.trans (belowK_b (w := w3) b0.size W D _ _ hD hK rfl rfl)
end Go.Proofs.YtdifdbkbpeanhaaDoor
