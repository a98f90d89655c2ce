/- The walks of slices.AppendSeq and Collect at facts. -/
import Derived.Test.YtdifdbkbpeanhaaDoorMemTold
set_option linter.unusedSimpArgs false
set_option linter.unusedVariables false
namespace Herb
open Go Go.RowKit
theorem own_neF {w : World} {base n size p : Nat} {e t : TypeId} {v : Value} {xs : List Value} {cs : Array Value} {fr : Nat × Nat} (h : w.ownsRow base e size v n xs) (hb : w.heap[p]? = some (Obj.cells cs t fr)) (hne : t ≠ e) : some p ≠ v.ownBlock := by
  rcases h.2 with ⟨rfl, _⟩ | ⟨g, cap, cur, rfl, _, hg, _⟩
  · simp [Value.ownBlock]
  · simp only [Value.ownBlock, ne_eq, Option.some.injEq]
    rintro rfl
    rw [hg] at hb
    injection hb with hb
    injection hb with _ ht
    exact hne ht.symm
theorem SeqF.kp {α : Type} {F : Fence} {n : Nat} {P : Program} {g : Nat} {lb : Array Value} {Enc : α → Array Value → World → Prop} {Kp Kp' : Nat → World → World → Prop} {xs : List α} {w : World} (h : SeqF F n P g lb Enc Kp xs w) (hk : ∀ l W W', Kp' l W W' → Kp l W W') : SeqF F n P g lb Enc Kp' xs w :=
  fun l J Jx W hl hW hJ hJx hY h0 => h l J Jx W hl hW hJ hJx (fun pre x vs W1 h1 h2 h3 => (hY pre x vs W1 h1 h2 h3).mono (fun e W' he => he.imp (fun q => ⟨q.1, q.2.1, hk _ _ _ q.2.2⟩) (fun q => ⟨q.1, q.2.1, hk _ _ _ q.2.2⟩))) h0
end Herb
namespace Go.Proofs.YtdifdbkbpeanhaaDoor
open Go Go.RowKit Go.Shelf Herb
attribute [local go_sem] Oper.semAt_some
theorem KpF.alloc (n0 B : Nat) (W : World) (o : Obj) (h : n0 ≤ W.heap.size) : KpF n0 B W (W.alloc o) :=
  ⟨(Below.refl _ _).alloc h _, (KeepsOthers.alloc _ _).from _, fun k cs t fr hk _ _ => (Below.heap_alloc W o k (Array.getElem?_eq_some_iff.1 hk).1).trans hk⟩
theorem ftInfo : (Tryd.prog.info? 27).map (fun i => (i.zero, i.size, i.bytes)) = some (some (.agg #[.string ⟨#[]⟩, .int .u32 0, .int .u64 0, .int .u64 0, .int .u8 0, .string ⟨#[]⟩]), 6, 64) := by kernel_rfl

set_option maxRecDepth 100000 in
set_option maxHeartbeats 3200000 in
theorem appendSeq_any (w : World) (gf : Nat) (lb : Array Value) (eg : ∀ args w, (callFunc gf args).run Tryd.prog w = .ok (.enter gf args) w) (xs : List Ft) (hlen : xs.length ≤ 1000000)
    (hseq : SeqF Fence.wide 8 Tryd.prog gf lb EncF (fun l => KpF w.heap.size (l + 1)) xs w) :
    Calls Tryd.prog 47 #[.slice none 0 0, .func (.func gf) #[] lb] w fun e w' => ∃ v, e = .returned v ∧ w'.ownsRow w.heap.size 27 6 v xs.length (ftC xs) ∧ Below w.heap.size w w' := by
  refine (callsIn_wide (n := 9)).1 ?_
  refine callsIn_of_wp_marks Tryd.func47 rfl trivial ?_ rfl
  simp only [Tryd.ntmps47, List.size_toArray, List.length_cons, List.length_nil, Nat.reduceAdd, Nat.reduceSub, Array.replicate_succ, Array.replicate_zero, List.push_toArray, List.append_toArray, List.nil_append, List.cons_append]
  obtain ⟨W0, hW0⟩ : ∃ W0, w.alloc (.cells #[.slice none 0 0] 36) = W0 := ⟨_, rfl⟩
  have b0 : Below w.heap.size w W0 := by rw [← hW0]; exact (Below.refl _ _).alloc (Nat.le_refl _) _
  have bO : Boxed W0 w.heap.size 36 (.slice none 0 0) := by rw [← hW0]; exact Boxed.new w _ _
  have hs0 : W0.heap.size = w.heap.size + 1 := by rw [← hW0]; simp
  replace hW0 := Lib.hid hW0
  gi_wp2
  rw [hW0.out]
  obtain ⟨i0, hi, hz0, hz1, hz2⟩ := info_parts ftInfo
  refine wpIn_range_F rfl (by omega) (gf := gf) (lb := lb) rfl trivial eg hseq (fun h k => h.trans k)
    (fun W' o o' hl hc hw => ⟨belowK_b b0.size W' _ o o' (by omega) hl hc hw, ⟨by simp, fun k o2 hk ho2 hc2 => (World.putObj_heap_other (by omega)).trans ho2⟩, fun k cs t fr hk _ _ => (World.putObj_heap_other (fun e => by subst e; rw [hl] at hk; cases hk; cases hc)).trans hk⟩)
    b0 (fun x vs W he => by rw [he]; rfl) (fun x vs => ownFrom_pure _ _)
    (fun pre W => (∃ v, Boxed W w.heap.size 36 v ∧ W.ownsRow w.heap.size 27 6 v pre.length (ftC pre) ∧ True) ∧ Below w.heap.size w W)
    (fun _ _ _ => False)
    (OwnFrom.and (Own.from (holdsRow_own _ _ _ _ _ (fun pre => pre.length) (fun pre => ftC pre) (fun _ _ => True)) _) (ownFrom_below (Nat.le_refl _) b0.size))
    (fun cd s X Y row h _ _ => h)
    ⟨⟨_, bO, World.ownsRow_nil _ _ _ _, trivial⟩, b0⟩
    (fun vs a' W => ∃ (f : Ft) (Bx : Nat), vs = #[f.val] ∧ Blk W Bx 27 #[.string f.k, .int .u32 (f.va : Int), .int .u64 (f.se : Int), .int .u64 (f.li : Int), .int .u8 (f.ki : Int), .string f.v] ∧
      a' = { tmps := #[.slice none 0 0, .func (.func gf) #[] lb, .pointer (some ⟨w.heap.size, 0, none⟩), undef, .slice none 0 0, .pointer (some ⟨Bx, 0, none⟩), .func (.func gf) #[] lb, f.val, undef, undef, undef, undef, undef], defers := [] })
    ?hax ?assign ?body ?done ?stop
  case hax =>
    rintro vs a' _ X Y row ⟨f, Bx, h1, h2, h3⟩ hg hr
    exact ⟨f, Bx, h1, blk_own (β := Unit) _ _ _ _ () X Y row h2 hg hr, h3⟩
  case assign =>
    rintro l pre f vs W K ⟨⟨v, hv, hrow, _⟩, hB⟩ rfl hK
    gi_wp2
    exact hK _ _ ((KeepsOthers.alloc _ _).from _) (KpF.alloc _ _ _ _ hB.size) ⟨⟨v, (Below.heap_alloc W _ _ hv.lt).trans hv, hrow.alloc _, trivial⟩, hB.alloc hB.size _⟩ rfl ⟨f, W.heap.size, rfl, Blk.new W _ _, rfl⟩
  case body =>
    rintro l pre f vs a' W hl ⟨⟨v, hv, hrow, _⟩, hB⟩ hpx rfl ⟨f', Bx, hf, hbx, rfl⟩
    obtain rfl : f' = f := Ft.val_inj (by
      injection hf with hf
      injection hf with hf _
      exact hf.symm)
    have hpl : pre.length + 1 ≤ 1000000 := by have := hpx.length_le; simp at this; omega
    have hvc := hv.cell
    have cx := hbx.cell
    have hne : 36 ≠ 27 := by decide
    have hnew := (Blk.new W 27 #[.string f'.k, .int .u32 (f'.va : Int), .int .u64 (f'.se : Int), .int .u64 (f'.li : Int), .int .u8 (f'.ki : Int), .string f'.v]).cell
    have hsn : ftC pre ++ f'.cells = ftC (pre ++ [f']) := by rw [ftC_append]; simp [ftC]
    replace hnew := Lib.hid hnew
    replace hsn := Lib.hid hsn
    gi_wp2_with (gi_at_builtin; refine wpListIn_append_own _ rfl _ _ 36 rfl w.heap.size 27 i0 _ 6 64 Tryd.underlying36 hi hz0 hz1 hz2 rfl (by decide) _ _ _ rfl (hrow.alloc _) ⟨W.heap.size, 0, none⟩ 1 1 f'.cells rfl rfl (fun j u hu => by rw [add_eq, Nat.zero_add]; exact (hnew.out j).trans (by simpa [Ft.cells] using hu)) (by intro u hu; exact ftC_one [f'] u (by simpa [ftC] using hu)) (by unfold maxLen; omega) (by omega) (by have := hB.size; simp; omega) ?_; intro v' w3 hown' hgrow _; obtain ⟨g', cap', rfl⟩ := ownsRow_succ hown'; obtain ⟨hv1, hv2, hr2, hk2, hb2⟩ := hv.appended hne hrow hB.size (Nat.le_refl _) hown' hgrow; have hc1 := hv1.cell; have hf1 := hv1.frozen)
    rw [hsn.out] at hr2
    have htyp : ∀ (k : Nat) (cs : Array Value) (t : TypeId) (fr : Nat × Nat), W.heap[k]? = some (Obj.cells cs t fr) → t ≠ 27 → t ≠ 36 → (w3.setCell ⟨w.heap.size, 0, none⟩ (.slice (some ⟨g', 0, none⟩) (pre.length + 1) cap')).heap[k]? = some (Obj.cells cs t fr) := fun k cs t fr hk h1 h2 => by
      have hlt := (Array.getElem?_eq_some_iff.1 hk).1
      have hk1 := (Below.heap_alloc W (Obj.cells #[.string f'.k, .int .u32 (f'.va : Int), .int .u64 (f'.se : Int), .int .u64 (f'.li : Int), .int .u8 (f'.ki : Int), .string f'.v] 27) k hlt).trans hk
      refine (heap_setCell_other w3 ⟨w.heap.size, 0, none⟩ k _ (fun e => ?_)).trans ((hgrow.block k (by simp; omega) (own_neF (hrow.alloc _) hk1 h1)).trans hk1)
      subst e
      have hv' : W.heap[w.heap.size]? = _ := hv
      rw [hv'] at hk
      injection hk with hk
      injection hk with _ ht _
      exact h2 ht.symm
    exact ⟨hk2.from _, ⟨hb2, hk2.from _, htyp⟩, ⟨_, hv2, by simpa using hr2⟩, hB.trans hb2⟩
  case done =>
    rintro D W hD ⟨⟨v, hv, hrow, _⟩, hB⟩ hK
    have hvc := hv.cell
    gi_wp2
    refine ⟨by simp, .inl ⟨_, _, rfl, run_takeDeferred hK, ?_⟩⟩
    refine ⟨_, results_tmp rfl _ _ _, v, rfl, ?_, ?_⟩
    · exact hrow.kept (grownBy_putObj' _ D _) (by
        rcases hrow.2 with ⟨rfl, _⟩ | ⟨g', cap', cur, rfl, _, hg, _⟩
        · exact .inl rfl
        · refine .inr (fun e => ?_)
          simp only [Value.ownBlock] at e
          cases e
          rw [hK] at hg
          cases hg)
    · exact hB.trans (belowK_b (w := W0) b0.size W D _ _ hD hK rfl rfl)
  case stop =>
    rintro D c pre W _ _ h _
    exact h.elim
theorem collect_any (w : World) (gf : Nat) (lb : Array Value) (eg : ∀ args w, (callFunc gf args).run Tryd.prog w = .ok (.enter gf args) w) (xs : List Ft) (hlen : xs.length ≤ 1000000)
    (hseq : SeqF Fence.wide 8 Tryd.prog gf lb EncF (fun l => KpF w.heap.size (l + 1)) xs w) :
    Calls Tryd.prog 29 #[.func (.func gf) #[] lb] w fun e w' => ∃ v, e = .returned v ∧ w'.ownsRow w.heap.size 27 6 v xs.length (ftC xs) ∧ Below w.heap.size w w' := by
  go_enter Tryd.func29, Tryd.ntmps29
  go_wp2_with fail
  refine (appendSeq_any w gf lb eg xs hlen hseq).mono ?_
  rintro _ w1 ⟨v, rfl, h1, h2⟩
  go_wp2
  go_ret
  exact ⟨v, rfl, h1, h2⟩
end Go.Proofs.YtdifdbkbpeanhaaDoor
