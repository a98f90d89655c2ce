/- The walks of slices.AppendSeq and Collect over tell. -/
import Derived.Test.YtnlmchbigpjamaaJnTell
set_option linter.unusedSimpArgs false
set_option linter.unusedVariables false
namespace Go.Proofs.Ytnlmchbigpjamaa
open Go Go.RowKit Go.Shelf Herb Herb.Jn
attribute [local go_sem] Oper.semAt_some
theorem ftInfo : (Try.prog.info? 44).map (fun i => (i.zero, i.size, i.bytes)) = some (some (.agg #[.string ⟨#[]⟩, .int .u32 0, .int .u64 0, .int .u64 0, .int .u8 0, .string ⟨#[]⟩]), 6, 64) := by kernel_rfl
theorem app_fin {W w3 : World} {B s n0 bx k m : Nat} {v v' : Value} {xs ys : List Value} {tmp : Obj} (hv : Boxed W bx 26 v) (hrow : W.ownsRow s 44 6 v k xs) (hsW : s ≤ W.heap.size) (hown' : w3.ownsRow s 44 6 v' m ys) (hgrow : (W.alloc tmp).grownBy w3 v.ownBlock) (h0 : n0 ≤ bx) (h1 : bx < B) (h2 : B ≤ s) :
    Boxed w3 bx 26 v ∧ Boxed (w3.setCell ⟨bx, 0, none⟩ v') bx 26 v' ∧ (w3.setCell ⟨bx, 0, none⟩ v').ownsRow s 44 6 v' m ys ∧ KeepBut (Kn n0 B s) W (w3.setCell ⟨bx, 0, none⟩ v') := by
  have hv1 : Boxed w3 bx 26 v := (hv.alloc tmp).kept hgrow (hv.not_row (by decide) hrow)
  refine ⟨hv1, hv1.set v', hown'.kept (grownBy_setCell' w3 bx v') (.inr (hv1.not_row (by decide) hown').symm), ?_⟩
  have k1 : KeepBut (Kn n0 B s) W w3 := ((KeepBut.refl W).alloc tmp).trans (KeepBut.of_grown hgrow (fun j hj => by
    have := (hrow.lt j hj).1
    exact ⟨by omega, fun e => by omega⟩))
  exact k1.setCell (p := ⟨bx, 0, none⟩) ⟨h0, fun e => by have := e.1; simp only at this; omega⟩ _
theorem own_base {w : World} {base base' n size : Nat} {e : TypeId} {v : Value} {xs : List Value} (h : w.ownsRow base e size v n xs) (hb : base' ≤ base) : w.ownsRow base' e size v n xs := by
  refine ⟨h.1, ?_⟩
  rcases h.2 with h0 | ⟨g, cap, cur, h1, h2, h3⟩
  · exact .inl h0
  · exact .inr ⟨g, cap, cur, h1, Nat.le_trans hb h2, h3⟩
theorem own_keepS {S : Nat → Prop} {w w' : World} {base n size : Nat} {e : TypeId} {v : Value} {xs : List Value} (hk : KeepBut S w w') (h : w.ownsRow base e size v n xs) (hs : ∀ k, base ≤ k → ¬ S k) : w'.ownsRow base e size v n xs :=
  hk.own h (fun k hk' => hs k (h.lt k hk').1)
set_option maxRecDepth 100000 in
set_option maxHeartbeats 3200000 in
theorem appendTell_any (w : World) (A : Option Addr) (m c : Nat) (fs : List Ft) (C : Nat) (hm : fs.length = m) (hm2 : m ≤ 1000000) (hfs : Fs w A fs) (hAC : ∀ a, A = some a → 0 < m → a.block ≠ C) (hc : Cnt C w) :
    Calls Try.prog 32 #[.slice none 0 0, .func (.func 10) #[.agg #[.slice A m c, .pointer (some ⟨C, 0, none⟩)]] #[]] w fun e w' => ∃ v, e = .returned v ∧ w'.ownsRow w.heap.size 44 6 v m (ftC fs) ∧ KeepBut (fun k => k = C) w w' ∧ Cnt C w' := by
  have hCw : C < w.heap.size := by obtain ⟨z, hz⟩ := hc; exact hz.lt
  have hseq := tell_seq 8 w A m c fs C hm hm2 hfs hAC hCw
  have eg := fun args w => enters_of Try.func10 (by kernel_rfl) rfl args w
  refine (callsIn_wide (n := 9)).1 ?_
  refine callsIn_of_wp_marks Try.func32 rfl trivial ?_ rfl
  simp only [Try.ntmps32, List.size_toArray, List.length_cons, List.length_nil, Nat.reduceAdd, Nat.reduceSub, Array.replicate_succ, Array.replicate_zero, List.push_toArray, List.append_toArray, List.nil_append, List.cons_append]
  obtain ⟨W0, hW0⟩ : ∃ W0, w.alloc (.cells #[.slice none 0 0] 26) = W0 := ⟨_, rfl⟩
  have b0 : ∀ S, KeepBut S w W0 := fun S => by rw [← hW0]; exact (KeepBut.refl w).alloc _
  have bO : Boxed W0 w.heap.size 26 (.slice none 0 0) := by rw [← hW0]; exact Boxed.new w _ _
  have hs0 : W0.heap.size = w.heap.size + 1 := by rw [← hW0]; simp
  have hc0 : Cnt C W0 := Cnt.keep _ _ hc (b0 _)
  replace hW0 := Lib.hid hW0
  replace hm := Lib.hid hm
  gi_wp2
  rw [hW0.out]
  obtain ⟨i0, hi, hz0, hz1, hz2⟩ := info_parts ftInfo
  refine wpIn_range_M rfl (by omega) (gf := 10) (ba := #[.agg #[.slice A m c, .pointer (some ⟨C, 0, none⟩)]]) (lb := #[]) rfl trivial eg hseq (b0 _) (by omega) hc0 (fun X Y => Cnt.keep X Y) (fun x vs W he => by rw [he]; rfl) (fun x vs X Y he _ => he)
    (fun s pre W => (∃ v, Boxed W w.heap.size 26 v ∧ W.ownsRow s 44 6 v pre.length (ftC pre)) ∧ KeepBut (fun k => k = C ∨ w.heap.size ≤ k) w W ∧ w.heap.size ≤ s)
    (fun _ _ _ _ => False)
    (fun s pre X Y hs h hk => by
      obtain ⟨⟨v, hv, hr⟩, hb, hws⟩ := h
      exact ⟨⟨v, (hk.block _ hv.lt (fun e => by rcases e with e | e <;> omega)).trans hv, own_keepS hk hr (fun k hk' e => by rcases e with e | e <;> omega)⟩, hb.trans (hk.weak (fun k _ e => e.imp id (fun q => by have := q.1; omega))), hws⟩)
    (fun _ _ _ _ _ _ h _ => h.elim)
    (fun s W2 hs hs2 hk => ⟨⟨_, (hk.block _ bO.lt (fun e => by omega)).trans bO, World.ownsRow_nil _ _ _ _⟩, (b0 _).trans (hk.weak (fun k _ e => .inl e)), by omega⟩)
    (fun vs a' W => ∃ (f : Ft) (Bx : Nat), vs = #[f.val] ∧ Blk W Bx 44 #[.string f.k, .int .u32 (f.va : Int), .int .u64 (f.se : Int), .int .u64 (f.li : Int), .int .u8 (f.ki : Int), .string f.v] ∧ Bx ≠ W0.heap.size + 1 ∧
      a' = { tmps := #[.slice none 0 0, .func (.func 10) #[.agg #[.slice A m c, .pointer (some ⟨C, 0, none⟩)]] #[], .pointer (some ⟨w.heap.size, 0, none⟩), undef, .slice none 0 0, .pointer (some ⟨Bx, 0, none⟩), .func (.func 10) #[.agg #[.slice A m c, .pointer (some ⟨C, 0, none⟩)]] #[], f.val, undef, undef, undef, undef, undef], defers := [] })
    (fun vs a' X Y h hk => by
      obtain ⟨f, Bx, h1, h2, h3, h4⟩ := h
      exact ⟨f, Bx, h1, hk.blk h2 h3, h3, h4⟩)
    ?assign ?body ?done ?stop
  case assign =>
    rintro l s pre f vs W K hs hsW ⟨⟨v, hv, hrow⟩, hB, hws⟩ rfl hK
    gi_wp2
    refine hK _ _ ((KeepBut.refl W).alloc _) ⟨⟨v, hv.alloc _, hrow.alloc _⟩, hB.alloc _, hws⟩ rfl ⟨f, W.heap.size, rfl, Blk.new W _ _, by omega, rfl⟩
  case body =>
    rintro l s pre f vs a' W hs hsW ⟨⟨v, hv, hrow⟩, hB, hws⟩ hpx rfl ⟨f', Bx, hf, hbx, hbn, rfl⟩
    obtain rfl : f' = f := Ft.val_inj (by
      injection hf with hf
      injection hf with hf _
      exact hf.symm)
    have hpl : pre.length + 1 ≤ 1000000 := by have := hpx.length_le; simp [hm.out] at this; omega
    have hvc := hv.cell
    have cx := hbx.cell
    have hne : 26 ≠ 44 := by decide
    have hnew := (Blk.new W 44 #[.string f'.k, .int .u32 (f'.va : Int), .int .u64 (f'.se : Int), .int .u64 (f'.li : Int), .int .u8 (f'.ki : Int), .string f'.v]).cell
    have hsn : ftC pre ++ f'.cells = ftC (pre ++ [f']) := by rw [ftC_append]; simp [ftC]
    replace hnew := Lib.hid hnew
    replace hsn := Lib.hid hsn
    replace hs := Lib.hid hs
    gi_wp2_with (gi_at_builtin; refine wpListIn_append_own _ rfl _ _ 26 rfl s 44 i0 _ 6 64 Try.underlying26 hi hz0 hz1 hz2 rfl (by decide) _ _ _ rfl (hrow.alloc _) ⟨W.heap.size, 0, none⟩ 1 1 f'.cells rfl rfl (fun j u hu => by rw [add_eq, Nat.zero_add]; exact (hnew.out j).trans (by simpa [Ft.cells] using hu)) (by intro u hu; exact ftC_one [f'] u (by simpa [ftC] using hu)) (by unfold maxLen; omega) (by omega) (by simp; omega) ?_; intro v' w3 hown' hgrow _; obtain ⟨g', cap', rfl⟩ := ownsRow_succ hown'; obtain ⟨hv1, hv2, hr2, hk2⟩ := app_fin (n0 := w.heap.size) (B := W0.heap.size) hv hrow hsW hown' hgrow (Nat.le_refl _) (by omega) (by have := hs.out; omega); have hc1 := hv1.cell; have hf1 := hv1.frozen)
    rw [hsn.out] at hr2
    rw [hs0] at hk2
    exact ⟨hk2, ⟨_, hv2, by simpa using hr2⟩, hB.trans (hk2.weak (fun k _ e => .inr e.1))⟩
  case done =>
    rintro D s W hD hcW ⟨⟨v, hv, hrow⟩, hB, hws⟩ hK
    have hvc := hv.cell
    rw [hm.out] at hrow
    gi_wp2
    refine ⟨by simp, .inl ⟨_, _, rfl, run_takeDeferred hK, ?_⟩⟩
    refine ⟨_, results_tmp rfl _ _ _, v, rfl, ?_, ?_, ?_⟩
    · refine (own_base hrow hws).kept (grownBy_putObj' _ D _) ?_
      rcases hrow.2 with ⟨rfl, _⟩ | ⟨g', cap', cur, rfl, _, hg, _⟩
      · exact .inl rfl
      · refine .inr (fun e => ?_)
        simp only [Value.ownBlock] at e
        cases e
        rw [hK] at hg
        cases hg
    · exact (hB.trans (keep_putObj (S := fun k => k = C ∨ w.heap.size ≤ k) _ (.inr (by omega)))).weak (fun k hk e => by rcases e with e | e <;> omega)
    · exact Cnt.keep _ _ hcW (keep_putObj _ (by omega))
  case stop =>
    rintro D s c' pre W _ _ _ h _
    exact h.elim
theorem collectTell_any (w : World) (A : Option Addr) (m c : Nat) (fs : List Ft) (C : Nat) (hm : fs.length = m) (hm2 : m ≤ 1000000) (hfs : Fs w A fs) (hAC : ∀ a, A = some a → 0 < m → a.block ≠ C) (hc : Cnt C w) :
    Calls Try.prog 22 #[.func (.func 10) #[.agg #[.slice A m c, .pointer (some ⟨C, 0, none⟩)]] #[]] w fun e w' => ∃ v, e = .returned v ∧ w'.ownsRow w.heap.size 44 6 v m (ftC fs) ∧ KeepBut (fun k => k = C) w w' ∧ Cnt C w' := by
  have pa := appendTell_any w A m c fs C hm hm2 hfs hAC hc
  replace pa := Lib.hid pa
  clear hm hfs hAC hc
  go_enter Try.func22, Try.ntmps22
  go_wp2_with fail
  refine pa.out.mono ?_
  rintro _ w1 ⟨v, rfl, h1, h2, h3⟩
  go_wp2
  go_ret
  exact ⟨v, rfl, h1, h2, h3⟩
end Go.Proofs.Ytnlmchbigpjamaa
