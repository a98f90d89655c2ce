/- The walks of skips' From and of the statements' all. -/
import Derived.Test.YtdifdbkbpeanhaaDoorSkFrom
set_option linter.unusedSimpArgs false
set_option linter.unusedVariables false
namespace Herb
open Go Go.RowKit
/-- '[]byte(s)'. -/
theorem bytes_str {P : Program} (w : World) (src dst e : TypeId) (s : ByteArray) (hs : P.underlying src = some .string) (hd : P.underlying dst = some (.slice e)) (he : P.underlying e = some (.int .u8)) (l : List UInt8) (hl : s.data.toList = l) (n : Nat) (hn : s.size = n) :
    ∃ c w', n ≤ c ∧ (convert src dst (.string s)).run P w = .ok (.slice (some ⟨w.heap.size, 0, none⟩) n c) w' ∧ Bs w' (some ⟨w.heap.size, 0, none⟩) l ∧ Below w.heap.size w w' := by
  subst hn
  subst hl
  refine ⟨_, _, grownCap_ge w s.size 0 e, run_bytes_of_string w src dst e s hs hd he, ⟨by rw [bvs_length]; omega, fun _ => ⟨w.heap.size, 0, rfl, by simp, fun j u hu => ?_⟩⟩, ((Below.refl _ w).drew).alloc (by simp) _⟩
  have hj : j < s.data.size := by
    have := (List.getElem?_eq_some_iff.1 hu).1
    rw [bvs_length] at this
    simpa using this
  have h1 := cell_new_any w.drew (bytesRow s (grownCap w s.size 0 e)) e ((bytesRow s (grownCap w s.size 0 e)).size, (bytesRow s (grownCap w s.size 0 e)).size + 1) j
  rw [Nat.zero_add]
  refine h1.trans ?_
  rw [bytesRow_at s _ j hj]
  rw [bvs_get (by simpa using hj)] at hu
  simpa [bv] using hu
/-- Pairs as cells. -/
def pairC (x : List UInt8 × Int) : List Value := [.string ⟨x.1.toArray⟩, .int .i64 x.2]
def pairsC (M : List (List UInt8 × Int)) : List Value := M.flatMap pairC
theorem pairsC_snoc (M : List (List UInt8 × Int)) (x : List UInt8 × Int) : pairsC (M ++ [x]) = pairsC M ++ pairC x := by simp [pairsC]
end Herb
namespace Go.Proofs.YtdifdbkbpeanhaaDoor
open Go Go.RowKit Go.Shelf Herb
attribute [local go_sem] Oper.semAt_some

set_option maxHeartbeats 800000 in
/-- From: the list and the key's copy are captured. -/
theorem from_any (w : World) (q : Option Addr) (K : List UInt8) (A : Option Addr) (n c : Nat) (hn : K.length = n) (hn2 : n ≤ 140737488355328) (hb : Bs w A K) :
    Calls Tryd.prog 49 #[.pointer q, .slice A n c] w fun e w' => ∃ A' c', e = .returned (.func (.func 56) #[] #[.pointer (some ⟨w.heap.size, 0, none⟩), .pointer (some ⟨w.heap.size + 1, 0, none⟩)]) ∧
      Boxed w' w.heap.size 51 (.pointer q) ∧ Boxed w' (w.heap.size + 1) 57 (.slice A' n c') ∧ Bs w' A' K ∧ Below w.heap.size w w' := by
  go_enter Tryd.func49, Tryd.ntmps49
  have bL := (Boxed.new w 51 (.pointer q)).alloc (.cells #[.slice A n c] 57)
  have bK := Boxed.new (w.alloc (.cells #[.pointer q] 51)) 57 (.slice A n c)
  rw [World.size_alloc] at bK
  have hb0 := ((Below.refl w.heap.size w).alloc (Nat.le_refl _) (.cells #[.pointer q] 51)).alloc (by simp) (.cells #[.slice A n c] 57)
  have pc := clone_bs ((w.alloc (.cells #[.pointer q] 51)).alloc (.cells #[.slice A n c] 57)) A n c K hn hn2 (hb.below hb0)
  have hkc := bK.cell
  replace hn := Lib.hid hn
  go_wp2_with fail
  refine pc.mono ?_
  clear pc hkc
  rintro _ w1 ⟨A', c', rfl, hown, b1⟩
  replace bL := (b1.block _ bL.lt).trans bL
  have bK1 : Boxed w1 (w.heap.size + 1) 57 (.slice A n c) := (b1.block _ bK.lt).trans bK
  have hsz := hb0.size
  have b2 := hb0.trans (b1.mono hb0.size)
  have hkc := bK1.cell
  have hkf := bK1.frozen
  go_wp2
  go_ret
  have hbs := (own_keyAt hown).bs
  have hA' : ∀ a, A' = some a → w.heap.size + 2 ≤ a.block := by
    rintro a rfl
    rcases hown.2 with ⟨h1, _⟩ | ⟨g, cap, cur, hv, hg, _⟩
    · cases h1
    · cases hv
      simpa using hg
  refine ⟨A', c', rfl, ?_, bK1.set _, ?_, b2.setCell (p := ⟨w.heap.size + 1, 0, none⟩) (by simp) _⟩
  · exact Boxed.other bL (by omega) _
  · exact hbs.but (S := fun k => k = w.heap.size + 1) (B := 0) (fun a ha _ => by have := hA' a ha; omega) (KeepBut.set_at w1 (w.heap.size + 1) 0 _)

/-- From's function hands over what is told from the key on. -/
theorem from_seq (n C base p g cap : Nat) (N : List Nd) (L : List Nat) (h : Nat → Nat) (I : Inv N L h) (M : Nat) (hM : N.length = M) (hM2 : M ≤ 1000000) (K : List UInt8) (A : Option Addr) (m c : Nat) (hm : K.length = m) (w0 w : World) (hS0 : SkAt w0 base p g cap N)
    (hbW : Below w0.heap.size w0 w) (hb : Bs w A K) (hC : Boxed w C 51 (.pointer (some ⟨p, 0, none⟩))) (hD : Boxed w (C + 1) 57 (.slice A m c)) :
    SeqE Fence.wide n Tryd.prog 56 #[.pointer (some ⟨C, 0, none⟩), .pointer (some ⟨C + 1, 0, none⟩)] EncK (Below w0.heap.size) (toldL N (restL N L K)) w := fun l J Jx W hW hJ _ hY h0 =>
  fromIter_in n l C base p g cap N L h I M hM hM2 K A m c hm w0 hS0 J Jx W hJ hY (hbW.trans (hW.mono hbW.size)) (hb.below hW) ((hW.block _ hC.lt).trans hC) ((hW.block _ hD.lt).trans hD) h0

/-- A function is not nil. -/
theorem func_nil (W : World) (t : TypeId) (ht : t = 68) (k : FuncId) (x y : Value) : (binOp .eql t (.func (.func k) #[] #[x, y]) .nilFunc).run Tryd.prog W = .ok (.bool false) W := by
  subst ht
  kernel_rfl
theorem enc_own (B : Nat) (x : List UInt8 × Int) (vs : Array Value) : OwnFrom B (fun (_ : Unit) W => EncK x vs W) := by
  rintro _ W W' row ⟨A, c, rfl, hk, hl⟩ hg hr
  refine ⟨A, c, rfl, ?_, hl⟩
  rcases hk with hk | ⟨g, cs, fr, ha, hb, hc⟩
  · exact .inl hk
  · refine .inr ⟨g, cs, fr, ha, (hg.block g (Array.getElem?_eq_some_iff.1 hb).1 (fun e => ?_)).trans hb, hc⟩
    obtain ⟨_, o, ho, hcl⟩ := hr g e.symm
    rw [hb] at ho
    cases ho
    cases hcl
end Go.Proofs.YtdifdbkbpeanhaaDoor
