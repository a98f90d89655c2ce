/- The walk of mems' told: an iterator that ranges over another one. -/
import Derived.Test.YtdifdbkbpeanhaaDoorSkAll
import Derived.Test.YtdifdbkbpeanhaaDoorMg2
set_option linter.unusedSimpArgs false
set_option linter.unusedVariables false
namespace Herb
open Go Go.RowKit
theorem OwnFrom.mono {β : Type} {B B' : Nat} {I : β → World → Prop} (h : OwnFrom B I) (hB : B ≤ B') : OwnFrom B' I := fun s W W' row hs hg hr => h s W W' row hs hg (fun r e => ⟨Nat.le_trans hB (hr r e).1, (hr r e).2⟩)
theorem blk_own {β : Type} (B g : Nat) (t : TypeId) (cs : Array Value) : OwnFrom B (fun (_ : β) W => Blk W g t cs) := fun _ X Y row hs hg hr =>
  hs.grown hg (fun e => by
    obtain ⟨_, o, ho, hc⟩ := hr g e.symm
    unfold Blk at hs
    rw [hs] at ho
    cases ho
    cases hc)
/-- How a fact comes. -/
def EncF (f : Ft) (vs : Array Value) (_ : World) : Prop := vs = #[f.val]
end Herb
namespace Go.Proofs.YtdifdbkbpeanhaaDoor
open Go Go.RowKit Go.Shelf Herb
attribute [local go_sem] Oper.semAt_some

/-- What a round of a caller keeps: all that lay below, what is no cells and lay from B on, and blocks that are neither facts nor lists of facts. -/
structure KpF (n0 B : Nat) (W W' : World) : Prop where
  low : Below n0 W W'
  oth : KeepsFrom B W W'
  typ : ∀ (k : Nat) (cs : Array Value) (t : TypeId) (fr : Nat × Nat), W.heap[k]? = some (Obj.cells cs t fr) → t ≠ 27 → t ≠ 36 → W'.heap[k]? = some (Obj.cells cs t fr)
theorem KpF.trans {n0 B : Nat} {X Y Z : World} (h : KpF n0 B X Y) (k : KpF n0 B Y Z) : KpF n0 B X Z :=
  ⟨h.low.trans k.low, h.oth.trans k.oth, fun i cs t fr hi h1 h2 => k.typ i cs t fr (h.typ i cs t fr hi h1 h2) h1 h2⟩
theorem KpF.blk {n0 B : Nat} {X Y : World} (h : KpF n0 B X Y) {g : Nat} {t : TypeId} {cs : Array Value} (hb : Blk X g t cs) (h1 : t ≠ 27) (h2 : t ≠ 36) : Blk Y g t cs := h.typ g cs t _ hb h1 h2

set_option maxRecDepth 100000 in
set_option maxHeartbeats 3200000 in
theorem told_in (n l base p g cap : Nat) (N : List Nd) (L : List Nat) (h : Nat → Nat) (I : Inv N L h) (M : Nat) (hM : N.length = M) (hM2 : M ≤ 1000000) (K : List UInt8) (A : Option Addr) (m c : Nat) (hm : K.length = m) (C : Nat) (w0 : World) (hS0 : SkAt w0 base p g cap N)
    (Af : Option Addr) (nf cf : Nat) (fs : List Ft) (hfs : Fs w0 Af fs) (hnf : fs.length = nf) (hix : ∀ x ∈ toldL N (restL N L K), ∃ i : Nat, x.2 = (i : Int) ∧ i < nf) (By Bx B : Nat)
    (J Jx : List Ft → World → Prop) (W : World) (hBW : B ≤ W.heap.size) (hbW : Below w0.heap.size w0 W) (hb : Bs W A K) (hC : Boxed W C 51 (.pointer (some ⟨p, 0, none⟩))) (hD : Boxed W (C + 1) 57 (.slice A m c))
    (hBy : Boxed W By 68 (.func (.func 56) #[] #[.pointer (some ⟨C, 0, none⟩), .pointer (some ⟨C + 1, 0, none⟩)]))
    (hBx : Blk W Bx 54 #[.pointer (some ⟨p, 0, none⟩), .slice Af nf cf])
    (hJ : OwnFrom W.heap.size J) (hJx : OwnFrom W.heap.size Jx)
    (hY : ∀ pre x vs W1, J pre W1 → pre ++ [x] <+: (toldL N (restL N L K)).map (fun x => fs.getD x.2.toNat Ft.zero) → EncF x vs W1 → YieldAt Fence.wide (n - 1) Tryd.prog l vs W1 fun e W' => (e = .returned (.bool true) ∧ J (pre ++ [x]) W' ∧ KpF w0.heap.size B W1 W') ∨ (e = .returned (.bool false) ∧ Jx (pre ++ [x]) W' ∧ KpF w0.heap.size B W1 W'))
    (h0 : J [] W) :
    CallsIn Fence.wide n Tryd.prog 48 #[.func (.yield l) #[] #[], .pointer (some ⟨By, 0, none⟩), .pointer (some ⟨Bx, 0, none⟩)] W fun e W' =>
      (∃ v, e = .returned v) ∧ (J ((toldL N (restL N L K)).map (fun x => fs.getD x.2.toNat Ft.zero)) W' ∨ (∃ pre, pre <+: (toldL N (restL N L K)).map (fun x => fs.getD x.2.toNat Ft.zero) ∧ Jx pre W')) := by
  refine callsIn_wide.2 ((callsIn_wide (n := 9)).1 ?_)
  refine callsIn_of_wp_marks Tryd.func48 rfl trivial ?_ rfl
  simp only [Tryd.ntmps48, List.size_toArray, List.length_cons, List.length_nil, Nat.reduceAdd, Nat.reduceSub, Array.replicate_succ, Array.replicate_zero, List.push_toArray, List.append_toArray, List.nil_append, List.cons_append]
  obtain ⟨W0, hW0⟩ : ∃ W0, W.alloc (.cells #[.func (.yield l) #[] #[]] 28) = W0 := ⟨_, rfl⟩
  have b0 : Below W.heap.size W W0 := by rw [← hW0]; exact (Below.refl _ _).alloc (Nat.le_refl _) _
  have hs0 : W0.heap.size = W.heap.size + 1 := by rw [← hW0]; simp
  have kY : Boxed W0 W.heap.size 28 (.func (.yield l) #[] #[]) := by rw [← hW0]; exact Boxed.new W _ _
  have hBy0 : Boxed W0 By _ _ := (b0.block _ hBy.lt).trans hBy
  have hBx0 := hBx.below b0 hBx.lt
  have hJ0 : J [] W0 := by rw [← hW0]; exact hJ.alloc _ h0
  have hbW0 := hbW.trans (b0.mono hbW.size)
  have hseq := (from_seq (9 - 1) C base p g cap N L h I M hM hM2 K A m c hm w0 W0 hS0 hbW0 (hb.below b0) ((b0.block _ hC.lt).trans hC) ((b0.block _ hD.lt).trans hD)).toF
  obtain ⟨ls, hls⟩ : ∃ ls, toldL N (restL N L K) = ls := ⟨_, rfl⟩
  rw [hls] at hseq hix hY ⊢
  have cy := hBy0.cell
  replace hM := Lib.hid hM
  replace hm := Lib.hid hm
  replace hls := Lib.hid hls
  replace hnf := Lib.hid hnf
  replace hs0 := Lib.hid hs0
  replace hW0 := Lib.hid hW0
  gi_wp2_with (first | rw [hW0.out] | fail)
  refine wpIn_range_F rfl (by omega) (gf := 56) (lb := #[.pointer (some ⟨C, 0, none⟩), .pointer (some ⟨C + 1, 0, none⟩)]) rfl trivial (enters_of Tryd.func56 (by kernel_rfl) rfl)
    hseq belowK_t (fun W' o o' hl hc hw => belowK_b hbW0.size W' _ o o' (by omega) hl hc hw) (Below.refl _ _) (fun x vs W he => by obtain ⟨A, c, rfl, _⟩ := he; rfl) (enc_own _)
    (fun pre W' => J (pre.map (fun x => fs.getD x.2.toNat Ft.zero)) W' ∧ Below w0.heap.size w0 W' ∧ Blk W' Bx 54 #[.pointer (some ⟨p, 0, none⟩), .slice Af nf cf] ∧ Blk W' W.heap.size 28 #[.func (.yield l) #[] #[]])
    (fun cd pre W' => cd = .ret ∧ Jx (pre.map (fun x => fs.getD x.2.toNat Ft.zero)) W')
    ?own ?ownx ⟨hJ0, hbW0, hBx0, kY⟩
    (fun vs a' _ => ∃ v0 v1, vs = #[v0, v1] ∧ a' = { tmps := #[.func (.yield l) #[] #[], .pointer (some ⟨By, 0, none⟩), .pointer (some ⟨Bx, 0, none⟩), .pointer (some ⟨W.heap.size, 0, none⟩), undef, v1, .func (.func 56) #[] #[.pointer (some ⟨C, 0, none⟩), .pointer (some ⟨C + 1, 0, none⟩)], v0, v1, undef, undef, undef, undef, undef, undef, undef, undef], defers := [] })
    (fun vs a' => ownFrom_pure _ _) ?assign ?body ?done ?stop
  case own => exact fun s X Y row hs hg hr => ⟨OwnFrom.mono hJ b0.size _ X Y row hs.1 hg hr, ownFrom_below (β := Unit) (Nat.le_refl _) hbW0.size () X Y row hs.2.1 hg hr, blk_own (β := Unit) _ _ _ _ () X Y row hs.2.2.1 hg hr, blk_own (β := Unit) _ _ _ _ () X Y row hs.2.2.2 hg hr⟩
  case ownx => exact fun cd s X Y row hs hg hr => ⟨hs.1, OwnFrom.mono hJx b0.size _ X Y row hs.2 hg hr⟩
  case assign =>
    rintro l2 pre x vs W2 K ⟨h1, h2, h3, h4⟩ he hK
    obtain ⟨A1, c1, rfl, hk1, hk2⟩ := id he
    gi_wp2
    exact hK _ _ (KeepsFrom.refl _ _) (Below.refl _ _) ⟨h1, h2, h3, h4⟩ he ⟨_, _, rfl, rfl⟩
  case body =>
    rintro l2 pre x vs a' W2 hl2 ⟨h1, h2, h3, h4⟩ hpx ⟨A1, c1, rfl, hk1, hk2⟩ ⟨v0, v1, hv, rfl⟩
    obtain ⟨rfl, rfl⟩ : v0 = .slice A1 x.1.length c1 ∧ v1 = .int .i64 x.2 := by
      injection hv with hv
      injection hv with h1 hv
      injection hv with h2 _
      exact ⟨h1.symm, h2.symm⟩
    obtain ⟨i, hi, hin⟩ := hix x (by obtain ⟨t, ht⟩ := hpx; rw [← ht]; simp)
    have hil : i < fs.length := by rw [hnf.out]; exact hin
    obtain ⟨b, off, rfl, _, hc⟩ := (hfs.below h2).at_ hil
    obtain ⟨e0, e1, e2, e3, e4, e5⟩ := hc i hil
    obtain ⟨f, hf⟩ : ∃ f, fs[i] = f := ⟨_, rfl⟩
    have hgd : fs.getD x.2.toNat Ft.zero = f := by rw [hi, Int.toNat_natCast, ← hf]; simp [List.getD, hil]
    have hpf : (pre.map (fun x => fs.getD x.2.toNat Ft.zero)) ++ [f] <+: ls.map (fun x => fs.getD x.2.toNat Ft.zero) := by
      obtain ⟨t, ht⟩ := hpx
      exact ⟨t.map (fun x => fs.getD x.2.toNat Ft.zero), by rw [← ht, List.map_append, List.map_append]; simp only [List.map_cons, List.map_nil]; rw [hgd]⟩
    have hJd : J (pre.map (fun x => fs.getD x.2.toNat Ft.zero)) W2.drew := hJ _ _ _ none h1 ⟨rfl, rfl, rfl, Nat.le_refl _, fun _ _ _ => rfl⟩ (fun r e => by cases e)
    obtain ⟨fn, tmps, assign, body, hy, hRd⟩ := Herb.YieldAt.deep rfl (9 - 1 - 1 - 1) (hY _ f #[f.val] W2.drew hJd hpf rfl)
    rw [hf] at e0 e1 e2 e3 e4 e5
    have kx : Blk W2.drew Bx 54 _ := h3
    have ky : Blk W2.drew W.heap.size 28 _ := h4
    have c3 := kx.cell
    have c4 := ky.cell
    have hmp : (pre ++ [x]).map (fun x => fs.getD x.2.toNat Ft.zero) = pre.map (fun x => fs.getD x.2.toNat Ft.zero) ++ [f] := by rw [List.map_append]; simp only [List.map_cons, List.map_nil]; rw [hgd]
    have fin : ∀ W3, KpF w0.heap.size B W2.drew W3 → KeepsFrom W0.heap.size W2 W3 ∧ Below w0.heap.size W2 W3 ∧ Below w0.heap.size w0 W3 ∧ Blk W3 Bx 54 #[.pointer (some ⟨p, 0, none⟩), .slice (some ⟨b, off, none⟩) nf cf] ∧ Blk W3 W.heap.size 28 #[.func (.yield l) #[] #[]] := fun W3 hk =>
      ⟨⟨hk.oth.size, fun k o hB => hk.oth.same k o (by have := hs0.out; omega)⟩, (Below.refl _ W2).drew.trans hk.low, h2.trans ((Below.refl _ W2).drew.trans hk.low), hk.blk kx (by decide) (by decide), hk.blk ky (by decide) (by decide)⟩
    replace fin := Lib.hid fin
    replace hmp := Lib.hid hmp
    have hdn : ∀ (x : Addr), W2.drew.cell? x = W2.cell? x := fun _ => rfl
    have hib : (0 : Int) ≤ (i : Int) ∧ (i : Int) < (nf : Int) := by omega
    obtain ⟨fk, fva, fse, fli, fki, fv⟩ := f
    simp only at e0 e1 e2 e3 e4 e5
    simp only [hi]
    have hfol : Tryd.prog.follows .mixedOrders = true := by kernel_rfl
    clear hc hgd hf hJ0 hseq hi
    gi_wp2_with fail
    refine wpIn_region_any hfol (wpAnyIn_round rfl (by kernel_rfl) _ _ _ _ ?_)
    change wpAnyIn _ _ _ _ _ _ _ _ _ (World.drew _)
    refine wpAnyIn_take (i := 1) (v := .pointer (some ⟨Bx, 1, none⟩)) rfl rfl (by kernel_rfl) (by kernel_rfl) (by kernel_rfl) (fun _ _ _ h => h) ⟨Or.inl ⟨by rfl, fun w => by go_simp⟩, fun _ => rfl⟩ ?_
    refine wpAnyIn_take (i := 3) (v := .int .i64 (i : Int)) rfl rfl (by kernel_rfl) (by kernel_rfl) (by kernel_rfl) (fun _ _ _ h => h) ⟨Or.inl ⟨by rfl, fun w => by go_simp⟩, fun _ => rfl⟩ ?_
    refine wpAnyIn_ready (rs := [0, 2]) (by kernel_rfl) (by simp) ?_
    refine AllReadyIn.cons rfl (fun K' hK' => ?_) ?_
    · go_simp
      refine hK' _ _ ?_
      clear hK' K'
      refine wpAnyIn_ready (rs := [2]) (by kernel_rfl) (by simp) ?_
      refine AllReadyIn.cons rfl (fun K' hK' => ?_) AllReadyIn.nil
      go_simp
      refine hK' _ _ ?_
      clear hK' K'
      refine wpAnyIn_take (i := 4) (v := .pointer (some ⟨b, off + i * 6, none⟩)) rfl rfl (by kernel_rfl) (by kernel_rfl) (by kernel_rfl) (fun _ _ _ h => h) ⟨Or.inl ⟨by rfl, fun w => by go_simp⟩, fun _ => rfl⟩ ?_
      refine wpAnyIn_ready (rs := [5]) (by kernel_rfl) (by simp) ?_
      refine AllReadyIn.cons rfl (fun K' hK' => ?_) AllReadyIn.nil
      go_simp
      refine hK' _ _ ?_
      clear hK' K'
      refine wpAnyIn_ready (rs := [6]) (by kernel_rfl) (by simp) ?_
      refine AllReadyIn.cons rfl (fun K' hK' => ?_) AllReadyIn.nil
      go_simp
      refine hRd.mono ?_
      rintro e W3 (⟨rfl, hJ3, hk3⟩ | ⟨rfl, hJx3, hk3⟩)
      · refine hK' _ _ ?_
        clear hK' K'
        refine wpAnyIn_take (i := 7) (v := .bool false) rfl rfl (by kernel_rfl) (by kernel_rfl) (by kernel_rfl) (fun _ _ _ h => h) ⟨Or.inl ⟨by rfl, fun w => by go_simp⟩, fun _ => rfl⟩ ?_
        refine wpAnyIn_done (by kernel_rfl) ?_ _
        gi_wp2
        obtain ⟨f1, f2, f3, f4, f5⟩ := fin.out W3 hk3
        exact ⟨f1, f2, by rw [hmp.out]; exact hJ3, f3, f4, f5⟩
      · refine hK' _ _ ?_
        clear hK' K'
        refine wpAnyIn_take (i := 7) (v := .bool true) rfl rfl (by kernel_rfl) (by kernel_rfl) (by kernel_rfl) (fun _ _ _ h => h) ⟨Or.inl ⟨by rfl, fun w => by go_simp⟩, fun _ => rfl⟩ ?_
        refine wpAnyIn_done (by kernel_rfl) ?_ _
        gi_wp2
        obtain ⟨f1, f2, f3, f4, f5⟩ := fin.out W3 hk3
        exact ⟨f1, f2, rfl, by rw [hmp.out]; exact hJx3⟩
    refine AllReadyIn.cons rfl (fun K' hK' => ?_) AllReadyIn.nil
    go_simp
    refine hK' _ _ ?_
    clear hK' K'
    refine wpAnyIn_take (i := 4) (v := .pointer (some ⟨b, off + i * 6, none⟩)) rfl rfl (by kernel_rfl) (by kernel_rfl) (by kernel_rfl) (fun _ _ _ h => h) ⟨Or.inl ⟨by rfl, fun w => by go_simp⟩, fun _ => rfl⟩ ?_
    refine wpAnyIn_ready (rs := [0, 5]) (by kernel_rfl) (by simp) ?_
    refine AllReadyIn.cons rfl (fun K' hK' => ?_) ?_
    · go_simp
      refine hK' _ _ ?_
      clear hK' K'
      refine wpAnyIn_ready (rs := [5]) (by kernel_rfl) (by simp) ?_
      refine AllReadyIn.cons rfl (fun K' hK' => ?_) AllReadyIn.nil
      go_simp
      refine hK' _ _ ?_
      clear hK' K'
      refine wpAnyIn_ready (rs := [6]) (by kernel_rfl) (by simp) ?_
      refine AllReadyIn.cons rfl (fun K' hK' => ?_) AllReadyIn.nil
      go_simp
      refine hRd.mono ?_
      rintro e W3 (⟨rfl, hJ3, hk3⟩ | ⟨rfl, hJx3, hk3⟩)
      · refine hK' _ _ ?_
        clear hK' K'
        refine wpAnyIn_take (i := 7) (v := .bool false) rfl rfl (by kernel_rfl) (by kernel_rfl) (by kernel_rfl) (fun _ _ _ h => h) ⟨Or.inl ⟨by rfl, fun w => by go_simp⟩, fun _ => rfl⟩ ?_
        refine wpAnyIn_done (by kernel_rfl) ?_ _
        gi_wp2
        obtain ⟨f1, f2, f3, f4, f5⟩ := fin.out W3 hk3
        exact ⟨f1, f2, by rw [hmp.out]; exact hJ3, f3, f4, f5⟩
      · refine hK' _ _ ?_
        clear hK' K'
        refine wpAnyIn_take (i := 7) (v := .bool true) rfl rfl (by kernel_rfl) (by kernel_rfl) (by kernel_rfl) (fun _ _ _ h => h) ⟨Or.inl ⟨by rfl, fun w => by go_simp⟩, fun _ => rfl⟩ ?_
        refine wpAnyIn_done (by kernel_rfl) ?_ _
        gi_wp2
        obtain ⟨f1, f2, f3, f4, f5⟩ := fin.out W3 hk3
        exact ⟨f1, f2, rfl, by rw [hmp.out]; exact hJx3⟩
    refine AllReadyIn.cons rfl (fun K' hK' => ?_) AllReadyIn.nil
    go_simp
    refine hK' _ _ ?_
    clear hK' K'
    refine wpAnyIn_ready (rs := [0]) (by kernel_rfl) (by simp) ?_
    refine AllReadyIn.cons rfl (fun K' hK' => ?_) AllReadyIn.nil
    go_simp
    refine hK' _ _ ?_
    clear hK' K'
    refine wpAnyIn_ready (rs := [6]) (by kernel_rfl) (by simp) ?_
    refine AllReadyIn.cons rfl (fun K' hK' => ?_) AllReadyIn.nil
    go_simp
    refine hRd.mono ?_
    rintro e W3 (⟨rfl, hJ3, hk3⟩ | ⟨rfl, hJx3, hk3⟩)
    · refine hK' _ _ ?_
      clear hK' K'
      refine wpAnyIn_take (i := 7) (v := .bool false) rfl rfl (by kernel_rfl) (by kernel_rfl) (by kernel_rfl) (fun _ _ _ h => h) ⟨Or.inl ⟨by rfl, fun w => by go_simp⟩, fun _ => rfl⟩ ?_
      refine wpAnyIn_done (by kernel_rfl) ?_ _
      gi_wp2
      obtain ⟨f1, f2, f3, f4, f5⟩ := fin.out W3 hk3
      exact ⟨f1, f2, by rw [hmp.out]; exact hJ3, f3, f4, f5⟩
    · refine hK' _ _ ?_
      clear hK' K'
      refine wpAnyIn_take (i := 7) (v := .bool true) rfl rfl (by kernel_rfl) (by kernel_rfl) (by kernel_rfl) (fun _ _ _ h => h) ⟨Or.inl ⟨by rfl, fun w => by go_simp⟩, fun _ => rfl⟩ ?_
      refine wpAnyIn_done (by kernel_rfl) ?_ _
      gi_wp2
      obtain ⟨f1, f2, f3, f4, f5⟩ := fin.out W3 hk3
      exact ⟨f1, f2, rfl, by rw [hmp.out]; exact hJx3⟩
  case done =>
    rintro D W2 hD ⟨h1, h2, h3, h4⟩ hK
    have hle := b0.size
    gi_wp2
    refine ⟨by simp, .inl ⟨_, _, rfl, run_takeDeferred hK, ?_⟩⟩
    refine ⟨_, results_none rfl _ _ _, ⟨_, rfl⟩, .inl (hJ.putObj _ h1 (by omega) hK rfl)⟩
  case stop =>
    rintro D c2 pre W2 hD ⟨t, ht⟩ ⟨rfl, h1⟩ hK
    have hle := b0.size
    gi_wp2
    refine ⟨by simp, .inl ⟨_, _, rfl, run_takeDeferred hK, ?_⟩⟩
    refine ⟨_, results_none rfl _ _ _, ⟨_, rfl⟩, .inr ⟨_, ⟨t.map (fun x => fs.getD x.2.toNat Ft.zero), by rw [← ht, List.map_append]⟩, hJx.putObj _ h1 (by omega) hK rfl⟩⟩

theorem told_seq (n base p g cap : Nat) (N : List Nd) (L : List Nat) (h : Nat → Nat) (I : Inv N L h) (M : Nat) (hM : N.length = M) (hM2 : M ≤ 1000000) (K : List UInt8) (A : Option Addr) (m c : Nat) (hm : K.length = m) (C : Nat) (w0 : World) (hS0 : SkAt w0 base p g cap N)
    (Af : Option Addr) (nf cf : Nat) (fs : List Ft) (hfs : Fs w0 Af fs) (hnf : fs.length = nf) (hix : ∀ x ∈ toldL N (restL N L K), ∃ i : Nat, x.2 = (i : Int) ∧ i < nf) (By Bx : Nat)
    (w : World) (hbW : Below w0.heap.size w0 w) (hb : Bs w A K) (hC : Boxed w C 51 (.pointer (some ⟨p, 0, none⟩))) (hD : Boxed w (C + 1) 57 (.slice A m c))
    (hBy : Boxed w By 68 (.func (.func 56) #[] #[.pointer (some ⟨C, 0, none⟩), .pointer (some ⟨C + 1, 0, none⟩)]))
    (hBx : Blk w Bx 54 #[.pointer (some ⟨p, 0, none⟩), .slice Af nf cf]) :
    SeqF Fence.wide n Tryd.prog 48 #[.pointer (some ⟨By, 0, none⟩), .pointer (some ⟨Bx, 0, none⟩)] EncF (fun l => KpF w0.heap.size (l + 1)) ((toldL N (restL N L K)).map (fun x => fs.getD x.2.toNat Ft.zero)) w :=
  fun l J Jx W hl hW hJ hJx hY h0 => told_in n l base p g cap N L h I M hM hM2 K A m c hm C w0 hS0 Af nf cf fs hfs hnf hix By Bx (l + 1) J Jx W hl (hbW.trans (hW.mono hbW.size)) (hb.below hW) ((hW.block _ hC.lt).trans hC) ((hW.block _ hD.lt).trans hD)
    ((hW.block _ hBy.lt).trans hBy) (hBx.below hW hBx.lt) hJ hJx hY h0
end Go.Proofs.YtdifdbkbpeanhaaDoor
