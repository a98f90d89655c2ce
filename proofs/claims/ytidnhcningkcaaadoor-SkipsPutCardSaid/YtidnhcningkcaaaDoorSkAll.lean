/- The walks of skips' From and of the statements' all. -/
import Derived.Test.YtidnhcningkcaaaDoorSkFrom
set_option linter.unusedSimpArgs false
set_option linter.unusedVariables false
namespace Herb
open Go Go.RowKit
/-- '[]byte(s)'. -/
theorem bytes_str {P : Program} (w : World) (src dst e : TypeId) (s : ByteArray) (hs : P.underlying src = some .string) (hd : P.underlying dst = some (.slice e)) (he : P.underlying e = some (.int .u8)) (l : List UInt8) (hl : s.data.toList = l) (n : Nat) (hn : s.size = n) :
    ∃ c w', n ≤ c ∧ (convert src dst (.string s)).run P w = .ok (.slice (some ⟨w.heap.size, 0, none⟩) n c) w' ∧ Bs w' (some ⟨w.heap.size, 0, none⟩) l ∧ Below w.heap.size w w' := by
  subst hn
  subst hl
  refine ⟨_, _, grownCap_ge w s.size 0 e, run_bytes_of_string w src dst e s hs hd he, ⟨by rw [bvs_length]; omega, fun _ => ⟨w.heap.size, 0, rfl, by simp, fun j u hu => ?_⟩⟩, ((Below.refl _ w).drew).alloc (by simp) _⟩
  have hj : j < s.data.size := by
    have := (List.getElem?_eq_some_iff.1 hu).1
    rw [bvs_length] at this
    simpa using this
  have h1 := cell_new_any w.drew (bytesRow s (grownCap w s.size 0 e)) e ((bytesRow s (grownCap w s.size 0 e)).size, (bytesRow s (grownCap w s.size 0 e)).size + 1) j
  rw [Nat.zero_add]
  refine h1.trans ?_
  rw [bytesRow_at s _ j hj]
  rw [bvs_get (by simpa using hj)] at hu
  simpa [bv] using hu
/-- Pairs as cells. -/
def pairC (x : List UInt8 × Int) : List Value := [.string ⟨x.1.toArray⟩, .int .i64 x.2]
def pairsC (M : List (List UInt8 × Int)) : List Value := M.flatMap pairC
theorem pairsC_snoc (M : List (List UInt8 × Int)) (x : List UInt8 × Int) : pairsC (M ++ [x]) = pairsC M ++ pairC x := by simp [pairsC]
end Herb
namespace Go.Proofs.YtidnhcningkcaaaDoor
open Go Go.RowKit Go.Shelf Herb
attribute [local go_sem] Oper.semAt_some

set_option maxHeartbeats 800000 in
/-- From: the list and the key's copy are captured. -/
theorem from_any (w : World) (q : Option Addr) (K : List UInt8) (A : Option Addr) (n c : Nat) (hn : K.length = n) (hn2 : n ≤ 140737488355328) (hb : Bs w A K) :
    Calls Tryd.prog 23 #[.pointer q, .slice A n c] w fun e w' => ∃ A' c', e = .returned (.func (.func 27) #[] #[.pointer (some ⟨w.heap.size, 0, none⟩), .pointer (some ⟨w.heap.size + 1, 0, none⟩)]) ∧
      Boxed w' w.heap.size 25 (.pointer q) ∧ Boxed w' (w.heap.size + 1) 23 (.slice A' n c') ∧ Bs w' A' K ∧ Below w.heap.size w w' := by
  go_enter Tryd.func23, Tryd.ntmps23
  have bL := (Boxed.new w 25 (.pointer q)).alloc (.cells #[.slice A n c] 23)
  have bK := Boxed.new (w.alloc (.cells #[.pointer q] 25)) 23 (.slice A n c)
  rw [World.size_alloc] at bK
  have hb0 := ((Below.refl w.heap.size w).alloc (Nat.le_refl _) (.cells #[.pointer q] 25)).alloc (by simp) (.cells #[.slice A n c] 23)
  have pc := clone_bs ((w.alloc (.cells #[.pointer q] 25)).alloc (.cells #[.slice A n c] 23)) A n c K hn hn2 (hb.below hb0)
  have hkc := bK.cell
  replace hn := Lib.hid hn
  go_wp2_with fail
  refine pc.mono ?_
  clear pc hkc
  rintro _ w1 ⟨A', c', rfl, hown, b1⟩
  replace bL := (b1.block _ bL.lt).trans bL
  have bK1 : Boxed w1 (w.heap.size + 1) 23 (.slice A n c) := (b1.block _ bK.lt).trans bK
  have hsz := hb0.size
  have b2 := hb0.trans (b1.mono hb0.size)
  have hkc := bK1.cell
  have hkf := bK1.frozen
  go_wp2
  go_ret
  have hbs := (own_keyAt hown).bs
  have hA' : ∀ a, A' = some a → w.heap.size + 2 ≤ a.block := by
    rintro a rfl
    rcases hown.2 with ⟨h1, _⟩ | ⟨g, cap, cur, hv, hg, _⟩
    · cases h1
    · cases hv
      simpa using hg
  refine ⟨A', c', rfl, ?_, bK1.set _, ?_, b2.setCell (p := ⟨w.heap.size + 1, 0, none⟩) (by simp) _⟩
  · exact Boxed.other bL (by omega) _
  · exact hbs.but (S := fun k => k = w.heap.size + 1) (B := 0) (fun a ha _ => by have := hA' a ha; omega) (KeepBut.set_at w1 (w.heap.size + 1) 0 _)

/-- From's function hands over what is told from the key on. -/
theorem from_seq2 (n C base p g cap : Nat) (N : List Nd) (L : List Nat) (h : Nat → Nat) (I : Inv N L h) (M : Nat) (hM : N.length = M) (hM2 : M ≤ 1000000) (K : List UInt8) (A : Option Addr) (m c : Nat) (hm : K.length = m) (w0 w : World) (hS0 : SkAt w0 base p g cap N)
    (hbW : Below w0.heap.size w0 w) (hb : Bs w A K) (hC : Boxed w C 25 (.pointer (some ⟨p, 0, none⟩))) (hD : Boxed w (C + 1) 23 (.slice A m c)) :
    SeqE Fence.wide n Tryd.prog 27 #[.pointer (some ⟨C, 0, none⟩), .pointer (some ⟨C + 1, 0, none⟩)] (EncK2 w.heap.size) (Below w0.heap.size) (toldL N (restL N L K)) w := fun l J Jx W hW hJ _ hY h0 =>
  fromIter_in n l C base p g cap N L h I M hM hM2 K A m c hm w0 hS0 J Jx W w.heap.size hW.size hJ hY (hbW.trans (hW.mono hbW.size)) (hb.below hW) ((hW.block _ hC.lt).trans hC) ((hW.block _ hD.lt).trans hD) h0
theorem from_seq (n C base p g cap : Nat) (N : List Nd) (L : List Nat) (h : Nat → Nat) (I : Inv N L h) (M : Nat) (hM : N.length = M) (hM2 : M ≤ 1000000) (K : List UInt8) (A : Option Addr) (m c : Nat) (hm : K.length = m) (w0 w : World) (hS0 : SkAt w0 base p g cap N)
    (hbW : Below w0.heap.size w0 w) (hb : Bs w A K) (hC : Boxed w C 25 (.pointer (some ⟨p, 0, none⟩))) (hD : Boxed w (C + 1) 23 (.slice A m c)) :
    SeqE Fence.wide n Tryd.prog 27 #[.pointer (some ⟨C, 0, none⟩), .pointer (some ⟨C + 1, 0, none⟩)] EncK (Below w0.heap.size) (toldL N (restL N L K)) w := fun l J Jx W hW hJ hJx hY h0 =>
  from_seq2 n C base p g cap N L h I M hM hM2 K A m c hm w0 w hS0 hbW hb hC hD l J Jx W hW hJ hJx (fun pre x vs W1 h1 h2 h3 => hY pre x vs W1 h1 h2 h3.weak) h0

/-- A function is not nil. -/
theorem func_nil (W : World) (t : TypeId) (ht : t = 62) (k : FuncId) (x y : Value) : (binOp .eql t (.func (.func k) #[] #[x, y]) .nilFunc).run Tryd.prog W = .ok (.bool false) W := by
  subst ht
  kernel_rfl
theorem enc_own (B : Nat) (x : List UInt8 × Int) (vs : Array Value) : OwnFrom B (fun (_ : Unit) W => EncK x vs W) := by
  rintro _ W W' row ⟨A, c, rfl, hk, hl⟩ hg hr
  refine ⟨A, c, rfl, ?_, hl⟩
  rcases hk with hk | ⟨g, cs, fr, ha, hb, hc⟩
  · exact .inl hk
  · refine .inr ⟨g, cs, fr, ha, (hg.block g (Array.getElem?_eq_some_iff.1 hb).1 (fun e => ?_)).trans hb, hc⟩
    obtain ⟨_, o, ho, hcl⟩ := hr g e.symm
    rw [hb] at ho
    cases ho
    cases hcl
theorem infoP : (Tryd.prog.info? 42).map (fun i => (i.zero, i.size, i.bytes)) = some (some (.agg #[.string ⟨#[]⟩, .int .i64 0]), 2, 24) := by kernel_rfl

set_option maxRecDepth 100000 in
set_option maxHeartbeats 1600000 in
theorem all_any (w : World) (base p g cap : Nat) (N : List Nd) (L : List Nat) (h : Nat → Nat) (I : Inv N L h) (hS : SkAt w base p g cap N) (M : Nat) (hM : N.length = M) (hM2 : M ≤ 1000000) (s : ByteArray) (K : List UInt8) (hK : s.data.toList = K) (n : Nat) (hn : s.size = n) (hn2 : n ≤ 140737488355328) :
    Calls Tryd.prog 15 #[.pointer (some ⟨p, 0, none⟩), .string s] w fun e w' => ∃ v, e = .returned v ∧ w'.ownsRow w.heap.size 42 2 v (toldL N (restL N L K)).length (pairsC (toldL N (restL N L K))) ∧ Below w.heap.size w w' := by
  have hlen : (toldL N (restL N L K)).length ≤ 1000000 := by
    have h1 := I.len
    have h2 := congrArg List.length (ahead_rest N L K)
    rw [List.length_append] at h2
    have h3 := hM
    unfold toldL
    rw [List.length_map]
    omega
  obtain ⟨ls, hls⟩ : ∃ ls, toldL N (restL N L K) = ls := ⟨_, rfl⟩
  rw [hls] at hlen ⊢
  have hKn : K.length = n := by rw [← hK, ← hn]; rfl
  obtain ⟨c, w1, hc, hconv, hbs, b1⟩ := bytes_str (P := Tryd.prog) (w.alloc (.cells #[.slice none 0 0] 39)) 9 23 5 s Tryd.underlying9 Tryd.underlying23 Tryd.underlying5 K hK n hn
  rw [World.size_alloc] at hbs
  have bO := Boxed.new w 39 (.slice none 0 0)
  have b0 := (Below.refl w.heap.size w).alloc (Nat.le_refl _) (.cells #[.slice none 0 0] 39)
  refine (callsIn_wide (n := 9)).1 ?_
  refine callsIn_of_wp_marks Tryd.func15 rfl trivial ?_ rfl
  simp only [Tryd.ntmps15, List.size_toArray, List.length_cons, List.length_nil, Nat.reduceAdd, Nat.reduceSub, Array.replicate_succ, Array.replicate_zero, List.push_toArray, List.append_toArray, List.nil_append, List.cons_append]
  replace hKn := Lib.hid hKn
  replace hK := Lib.hid hK
  replace hn := Lib.hid hn
  replace hM := Lib.hid hM
  gi_wp2_with fail
  refine ⟨trivial, (callsIn_wide.2 (from_any w1 (some ⟨p, 0, none⟩) K _ n c hKn.out hn2 hbs)).mono ?_⟩
  clear hconv
  rintro _ w2 ⟨A', c', rfl, bL, bK, hbs2, b2⟩
  have q1 := b0.trans (b1.mono b0.size)
  have q2 := q1.trans (b2.mono q1.size)
  replace bO : Boxed w2 w.heap.size 39 (.slice none 0 0) := (b2.block _ (Nat.lt_of_lt_of_le bO.lt b1.size)).trans ((b1.block _ bO.lt).trans bO)
  have hseq := from_seq (9 - 1) w1.heap.size base p g cap N L h I M hM.out hM2 K A' n c' hKn.out w w2 hS q2 hbs2 bL bK
  clear hbs b1 b2 q1
  have hfn := func_nil w2 _ rfl 27 (.pointer (some ⟨w1.heap.size, 0, none⟩)) (.pointer (some ⟨w1.heap.size + 1, 0, none⟩))
  gi_wp2_with fail
  rw [hls] at hseq
  replace hls := Lib.hid hls
  obtain ⟨i0, hi, hz0, hz1, hz2⟩ := info_parts infoP
  refine wpIn_range_E rfl (by omega) (gf := 27) (lb := #[.pointer (some ⟨w1.heap.size, 0, none⟩), .pointer (some ⟨w1.heap.size + 1, 0, none⟩)]) rfl trivial (enters_of Tryd.func27 (by kernel_rfl) rfl)
    hseq belowK_t (belowK_b q2.size) (Below.refl _ _) (fun x vs W he => by obtain ⟨A, c, rfl, _⟩ := he; rfl) (enc_own _)
    (fun pre W => (∃ v, Boxed W w.heap.size 39 v ∧ W.ownsRow w.heap.size 42 2 v pre.length (pairsC pre) ∧ True) ∧ Below w.heap.size w W)
    (fun _ _ _ => False)
    (OwnFrom.and (Own.from (holdsRow_own _ _ _ _ _ (fun pre => pre.length) (fun pre => pairsC pre) (fun _ _ => True)) _) (ownFrom_below (Nat.le_refl _) q2.size))
    (fun cd s X Y row h _ _ => h)
    ⟨⟨_, bO, World.ownsRow_nil _ _ _ _, trivial⟩, q2⟩
    (fun vs => { tmps := #[.pointer (some ⟨p, 0, none⟩), .string s, undef, undef, .slice none 0 0, .pointer (some ⟨w.heap.size, 0, none⟩), .func (.func 27) #[] #[.pointer (some ⟨w1.heap.size, 0, none⟩), .pointer (some ⟨w1.heap.size + 1, 0, none⟩)], vs.getD 0 undef, vs.getD 1 undef, .pointer (some ⟨p, 0, none⟩), .string s, .slice (some ⟨w.heap.size + 1, 0, none⟩) n c, .func (.func 27) #[] #[.pointer (some ⟨w1.heap.size, 0, none⟩), .pointer (some ⟨w1.heap.size + 1, 0, none⟩)], .func (.func 27) #[] #[.pointer (some ⟨w1.heap.size, 0, none⟩), .pointer (some ⟨w1.heap.size + 1, 0, none⟩)], .bool false, .func (.func 27) #[] #[.pointer (some ⟨w1.heap.size, 0, none⟩), .pointer (some ⟨w1.heap.size + 1, 0, none⟩)], vs.getD 0 undef, vs.getD 1 undef, undef, undef, undef, undef, undef, undef, undef, undef], defers := [] }) ?assign ?body ?done ?stop
  case assign =>
    rintro l x vs W K ⟨A1, c1, rfl, _, _⟩ hK
    gi_wp2
    exact hK
  case body =>
    rintro l pre ⟨kx, z⟩ vs W ⟨⟨v, hv, hrow, _⟩, hB⟩ hpx ⟨A1, c1, rfl, hka, hkl⟩
    simp only at hka hkl
    obtain ⟨m, hm⟩ : ∃ m, kx.length = m := ⟨_, rfl⟩
    have hpl : pre.length + 1 ≤ 1000000 := by have := hpx.length_le; simp at this; omega
    have hk1 := run_str (P := Tryd.prog) hka.bs 23 9 5 Tryd.underlying23 Tryd.underlying5 Tryd.underlying9 m c1 hm
    have hsn := pairsC_snoc pre (kx, z)
    have hvc := hv.cell
    have hnew := (Blk.new W 42 #[.string ⟨kx.toArray⟩, .int .i64 z]).cell
    have hne : 39 ≠ 42 := by decide
    simp only [hm]
    replace hm := Lib.hid hm
    replace hnew := Lib.hid hnew
    replace hsn := Lib.hid hsn
    gi_wp2_with (gi_at_builtin; refine wpListIn_append_own _ rfl _ _ 39 rfl w.heap.size 42 i0 _ 2 24 Tryd.underlying39 hi hz0 hz1 hz2 rfl (by decide) _ _ _ rfl (hrow.alloc _) ⟨W.heap.size, 0, none⟩ 1 1 [.string ⟨kx.toArray⟩, .int .i64 z] rfl rfl (fun j u hu => by rw [add_eq, Nat.zero_add]; exact (hnew.out j).trans (by simpa using hu)) (by intro u hu; simp at hu; rcases hu with rfl | rfl <;> rfl) (by unfold maxLen; omega) (by omega) (by have := hB.size; simp; omega) ?_; intro v' w3 hown' hgrow _; obtain ⟨g', cap', rfl⟩ := ownsRow_succ hown'; obtain ⟨hv1, hv2, hr2, hk2, hb2⟩ := hv.appended hne hrow hB.size (Nat.le_refl _) hown' hgrow; have hc1 := hv1.cell; have hf1 := hv1.frozen)
    rw [show pairsC pre ++ [.string ⟨kx.toArray⟩, .int .i64 z] = pairsC (pre ++ [(kx, z)]) from hsn.out.symm] at hr2
    exact ⟨hk2.from _, hb2, ⟨_, hv2, by simpa using hr2, trivial⟩, hB.trans hb2⟩
  case done =>
    rintro D W hD ⟨⟨v, hv, hrow, _⟩, hB⟩ hK
    have hvc := hv.cell
    gi_wp2
    refine ⟨by simp, .inl ⟨_, _, rfl, run_takeDeferred hK, ?_⟩⟩
    refine ⟨_, results_tmp rfl _ _ _, v, rfl, ?_, ?_⟩
    · exact hrow.kept (grownBy_putObj' _ D _) (by
        rcases hrow.2 with ⟨rfl, _⟩ | ⟨g', cap', cur, rfl, _, hg, _⟩
        · exact .inl rfl
        · refine .inr (fun e => ?_)
          simp only [Value.ownBlock] at e
          cases e
          rw [hK] at hg
          cases hg)
    · exact hB.trans (belowK_b (w := w2) q2.size W D _ _ hD hK rfl rfl)
  case stop =>
    rintro D c pre W _ _ h _
    exact h.elim
end Go.Proofs.YtidnhcningkcaaaDoor
