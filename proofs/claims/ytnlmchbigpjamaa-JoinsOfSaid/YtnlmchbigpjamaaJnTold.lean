/- The walk of told: what is told of an answer, so many at most. -/
import Derived.Test.YtnlmchbigpjamaaJnIter
set_option linter.unusedSimpArgs false
set_option linter.unusedVariables false
namespace Go.Proofs.Ytnlmchbigpjamaa
open Go Go.RowKit Go.Shelf Herb Herb.Jn
attribute [local go_sem] Oper.semAt_some
theorem own_putDef {W : World} {D base base' n : Nat} {v : Value} {xs : List Value} (hrow : W.ownsRow base 44 6 v n xs) (hb : base' ≤ base) (hK : W.heap[D]? = some (.deferred (some []))) (o : Obj) : (W.putObj D o).ownsRow base' 44 6 v n xs := by
  refine (own_base hrow hb).kept (grownBy_putObj' _ D _) ?_
  rcases hrow.2 with ⟨rfl, _⟩ | ⟨g', cap', cur, rfl, _, hg, _⟩
  · exact .inl rfl
  · refine .inr (fun e => ?_)
    simp only [Value.ownBlock] at e
    cases e
    rw [hK] at hg
    cases hg
set_option maxRecDepth 100000 in
set_option maxHeartbeats 3200000 in
theorem told_any (w : World) (B : Nat) (A : Option Addr) (N c C : Nat) (qs : List (Option Sl)) (hN : qs.length = N) (hN2 : N ≤ 100000) (hB : Blk w B 25 #[.slice A N c]) (hBC : B ≠ C) (hr : Rd w 1 A N (qs.map (sqV C))) (hAC : ∀ a, A = some a → 0 < N → a.block ≠ C) (hfs : SqFs w C qs) (hc : Cnt C w) (out : List Ft) (hM : Merge (qs.map sqF) out) (hol : out.length ≤ 1000000) (most : Nat) (hm1 : 1 ≤ most) (hm2 : most ≤ 2000000) :
    Calls Try.prog 14 #[.func (.func 21) #[] #[.pointer (some ⟨B, 0, none⟩)], .int .i64 (most : Int)] w fun e w' => ∃ v, e = .returned v ∧ w'.ownsRow w.heap.size 44 6 v ((dd out).take most).length (ftC ((dd out).take most)) ∧ KeepBut (fun k => k = C) w w' ∧ Cnt C w' := by
  have hCw : C < w.heap.size := by obtain ⟨z, hz⟩ := hc; exact hz.lt
  have hseq := iter_seq 8 w B A N c C qs hN hN2 hB hBC hr hAC hfs hCw out hM hol
  have hxl : (dd out).length ≤ 1000000 := Nat.le_trans (dd_sub out).length_le hol
  obtain ⟨xs, hxs⟩ : ∃ xs, dd out = xs := ⟨_, rfl⟩
  rw [hxs] at hseq hxl ⊢
  have eg := fun args w => enters_of Try.func21 (by kernel_rfl) rfl args w
  have hnil := func_nil
  refine (callsIn_wide (n := 9)).1 ?_
  refine callsIn_of_wp_marks Try.func14 rfl trivial ?_ rfl
  simp only [Try.ntmps14, List.size_toArray, List.length_cons, List.length_nil, Nat.reduceAdd, Nat.reduceSub, Array.replicate_succ, Array.replicate_zero, List.push_toArray, List.append_toArray, List.nil_append, List.cons_append]
  obtain ⟨W0, hW0⟩ : ∃ W0, (w.alloc (.cells #[.int .i64 (most : Int)] 3)).alloc (.cells #[.slice none 0 0] 26) = W0 := ⟨_, rfl⟩
  have b0 : ∀ S, KeepBut S w W0 := fun S => by rw [← hW0]; exact ((KeepBut.refl w).alloc _).alloc _
  have bO : Boxed W0 (w.heap.size + 1) 26 (.slice none 0 0) := by
    rw [← hW0]
    have := Boxed.new (w.alloc (.cells #[.int .i64 (most : Int)] 3)) 26 (.slice none 0 0)
    rwa [World.size_alloc] at this
  have bM : Boxed W0 w.heap.size 3 (.int .i64 (most : Int)) := by rw [← hW0]; exact (Boxed.new w 3 (.int .i64 (most : Int))).alloc _
  have hs0 : W0.heap.size = w.heap.size + 2 := by rw [← hW0]; simp
  have hc0 : Cnt C W0 := Cnt.keep _ _ hc (b0 _)
  have hnil0 := hnil W0 21 #[] #[.pointer (some ⟨B, 0, none⟩)]
  replace hW0 := Lib.hid hW0
  replace hxs := Lib.hid hxs
  clear hB hr hAC hfs hM hnil hol
  gi_wp2_with (first | rw [hW0.out] | rw [hnil0] | fail)
  obtain ⟨i0, hi, hz0, hz1, hz2⟩ := info_parts ftInfo
  replace hs0 := Lib.hid hs0
  refine wpIn_range_M rfl (by omega) (gf := 21) (ba := #[]) (lb := #[.pointer (some ⟨B, 0, none⟩)]) rfl trivial eg hseq (b0 _) (by have := hs0.out; omega) hc0 (fun X Y => Cnt.keep X Y) (fun x vs W he => by rw [he]; rfl) (fun x vs X Y he _ => he)
    (fun s pre W => (∃ v, Boxed W (w.heap.size + 1) 26 v ∧ W.ownsRow s 44 6 v pre.length (ftC pre)) ∧ KeepBut (fun k => k = C ∨ w.heap.size ≤ k) w W ∧ w.heap.size ≤ s ∧ Boxed W w.heap.size 3 (.int .i64 (most : Int)) ∧ pre.length < most)
    (fun cd s pre W => (∃ v, Boxed W (w.heap.size + 1) 26 v ∧ W.ownsRow s 44 6 v pre.length (ftC pre)) ∧ KeepBut (fun k => k = C ∨ w.heap.size ≤ k) w W ∧ w.heap.size ≤ s ∧ pre.length = most ∧ cd = .exit 0)
    (fun s pre X Y hs h hk => by
      have hs0 := hs0.out
      obtain ⟨⟨v, hv, hr⟩, hb, hws, hm, hlt⟩ := h
      exact ⟨⟨v, (hk.block _ hv.lt (fun e => by rcases e with e | e <;> omega)).trans hv, own_keepS hk hr (fun k hk' e => by rcases e with e | e <;> omega)⟩, hb.trans (hk.weak (fun k _ e => e.imp id (fun q => by have := q.1; omega))), hws, (hk.block _ hm.lt (fun e => by rcases e with e | e <;> omega)).trans hm, hlt⟩)
    (fun cd s pre X Y hs h hk => by
      have hs0 := hs0.out
      obtain ⟨⟨v, hv, hr⟩, hb, hws, hlt⟩ := h
      exact ⟨⟨v, (hk.block _ hv.lt (fun e => by rcases e with e | e <;> omega)).trans hv, own_keepS hk hr (fun k hk' e => by rcases e with e | e <;> omega)⟩, hb.trans (hk.weak (fun k _ e => e.imp id (fun q => by have := q.1; omega))), hws, hlt⟩)
    (fun s W2 hs hs2 hk => ⟨⟨_, (hk.block _ bO.lt (fun e => by omega)).trans bO, World.ownsRow_nil _ _ _ _⟩, (b0 _).trans (hk.weak (fun k _ e => .inl e)), by have := hs0.out; omega, (hk.block _ bM.lt (fun e => by omega)).trans bM, hm1⟩)
    (fun vs a' W => ∃ (f : Ft) (Bx : Nat), vs = #[f.val] ∧ Blk W Bx 44 #[.string f.k, .int .u32 (f.va : Int), .int .u64 (f.se : Int), .int .u64 (f.li : Int), .int .u8 (f.ki : Int), .string f.v] ∧ Bx ≠ W0.heap.size + 1 ∧
      a' = { tmps := #[.func (.func 21) #[] #[.pointer (some ⟨B, 0, none⟩)], .int .i64 (most : Int), undef, .pointer (some ⟨w.heap.size, 0, none⟩), .slice none 0 0, .pointer (some ⟨w.heap.size + 1, 0, none⟩), .pointer (some ⟨Bx, 0, none⟩), .func (.func 21) #[] #[.pointer (some ⟨B, 0, none⟩)], .bool false, .func (.func 21) #[] #[.pointer (some ⟨B, 0, none⟩)], f.val, undef, undef, undef, undef, undef, undef, undef, undef, undef], defers := [] })
    (fun vs a' X Y h hk => by
      obtain ⟨f, Bx, h1, h2, h3, h4⟩ := h
      exact ⟨f, Bx, h1, hk.blk h2 h3, h3, h4⟩)
    ?assign ?body ?done ?stop
  case assign =>
    rintro l s pre f vs W K hs hsW ⟨⟨v, hv, hrow⟩, hB, hws, hm, hlt⟩ rfl hK
    gi_wp2
    refine hK _ _ ((KeepBut.refl W).alloc _) ⟨⟨v, hv.alloc _, hrow.alloc _⟩, hB.alloc _, hws, hm.alloc _, hlt⟩ rfl ⟨f, W.heap.size, rfl, Blk.new W _ _, by omega, rfl⟩
  case body =>
    rintro l s pre f vs a' W hs hsW ⟨⟨v, hv, hrow⟩, hB, hws, hm, hlt⟩ hpx rfl ⟨f', Bx, hf, hbx, hbn, rfl⟩
    obtain rfl : f' = f := Ft.val_inj (by
      injection hf with hf
      injection hf with hf _
      exact hf.symm)
    have hpl : pre.length + 1 ≤ 1000000 := by have := hpx.length_le; simp at this; omega
    have hvc := hv.cell
    have cx := hbx.cell
    have hne : 26 ≠ 44 := by decide
    have hnew := (Blk.new W 44 #[.string f'.k, .int .u32 (f'.va : Int), .int .u64 (f'.se : Int), .int .u64 (f'.li : Int), .int .u8 (f'.ki : Int), .string f'.v]).cell
    have hsn : ftC pre ++ f'.cells = ftC (pre ++ [f']) := by rw [ftC_append]; simp [ftC]
    have hs1 : W0.heap.size ≤ s := by omega
    replace hnew := Lib.hid hnew
    replace hsn := Lib.hid hsn
    replace hs := Lib.hid hs
    replace hs1 := Lib.hid hs1
    replace hws := Lib.hid hws
    gi_wp2_with (gi_at_builtin; refine wpListIn_append_own _ rfl _ _ 26 rfl s 44 i0 _ 6 64 Try.underlying26 hi hz0 hz1 hz2 rfl (by decide) _ _ _ rfl (hrow.alloc _) ⟨W.heap.size, 0, none⟩ 1 1 f'.cells rfl rfl (fun j u hu => by rw [add_eq, Nat.zero_add]; exact (hnew.out j).trans (by simpa [Ft.cells] using hu)) (by intro u hu; exact ftC_one [f'] u (by simpa [ftC] using hu)) (by unfold maxLen; omega) (by omega) (by simp; omega) ?_; intro v' w3 hown' hgrow _; obtain ⟨g', cap', rfl⟩ := ownsRow_succ hown'; obtain ⟨hv1, hv2, hr2, hk2⟩ := app_fin (n0 := w.heap.size) (B := W0.heap.size) hv hrow hsW hown' hgrow (by omega) (by have := hs0.out; omega) hs1.out; have hc1 := hv1.cell; have hf1 := hv1.frozen; have hc2 := hv2.cell; have hM3 : Boxed (w3.setCell ⟨w.heap.size + 1, 0, none⟩ (.slice (some ⟨g', 0, none⟩) (pre.length + 1) cap')) w.heap.size 3 (.int .i64 (most : Int)) := (Below.heap_setCell w3 ⟨w.heap.size + 1, 0, none⟩ _ w.heap.size (by simp)).trans ((hm.alloc _).kept hgrow (hm.not_row (by decide) hrow)); have cM3 := hM3.cell)
    · rename_i hlm
      replace hlm : pre.length + 1 = most := by simp at hlm; omega
      rw [hsn.out] at hr2
      exact ⟨hk2, ⟨_, hv2, by simpa using hr2⟩, hB.trans (hk2.weak (fun k _ e => .inr e.1)), hws.out, by simpa using hlm, rfl⟩
    · rename_i hlm
      replace hlm : ¬ (pre.length + 1 = most) := by simp at hlm; omega
      rw [hsn.out] at hr2
      exact ⟨hk2, ⟨_, hv2, by simpa using hr2⟩, hB.trans (hk2.weak (fun k _ e => .inr e.1)), hws.out, hM3, by have := hlm; simp; omega⟩
  case done =>
    rintro D s W hD hcW ⟨⟨v, hv, hrow⟩, hB, hws, hm, hlt⟩ hK
    have hvc := hv.cell
    gi_wp2
    refine ⟨by simp, .inl ⟨_, _, rfl, run_takeDeferred hK, ?_⟩⟩
    refine ⟨_, results_tmp rfl _ _ _, v, rfl, ?_, ?_, ?_⟩
    · rw [List.take_of_length_le (by omega)]
      exact own_putDef hrow hws hK _
    · exact (hB.trans (keep_putObj (S := fun k => k = C ∨ w.heap.size ≤ k) _ (.inr (by have := hs0.out; omega)))).weak (fun k hk e => by rcases e with e | e <;> omega)
    · exact Cnt.keep _ _ hcW (keep_putObj _ (by have := hs0.out; omega))
  case stop =>
    rintro D s cd pre W hD hcW hpx ⟨⟨v, hv, hrow⟩, hB, hws, hlt, rfl⟩ hK
    have hvc := hv.cell
    gi_wp2
    refine ⟨by simp, .inl ⟨_, _, rfl, run_takeDeferred hK, ?_⟩⟩
    refine ⟨_, results_tmp rfl _ _ _, v, rfl, ?_, ?_, ?_⟩
    · rw [← hlt, ← List.prefix_iff_eq_take.1 hpx]
      exact own_putDef hrow hws hK _
    · exact (hB.trans (keep_putObj (S := fun k => k = C ∨ w.heap.size ≤ k) _ (.inr (by have := hs0.out; omega)))).weak (fun k hk e => by rcases e with e | e <;> omega)
    · exact Cnt.keep _ _ hcW (keep_putObj _ (by have := hs0.out; omega))
end Go.Proofs.Ytnlmchbigpjamaa
