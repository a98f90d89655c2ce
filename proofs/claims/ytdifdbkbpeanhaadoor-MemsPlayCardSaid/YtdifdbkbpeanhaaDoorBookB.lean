/- Walks of the book: strconv's small numbers, mark, keep, Bytes. -/
import Derived.Test.YtdifdbkbpeanhaaDoorBookA
import Derived.Test.YtdifdbkbpeanhaaDoorMg1
set_option linter.unusedSimpArgs false
set_option linter.unusedVariables false
namespace Herb
open Go Go.RowKit
theorem run_cut_str {P : Program} {t : TypeId} (ht : P.underlying t = some .string) (s : ByteArray) (k m : Nat) (hk : k ≤ m) (hm : m ≤ s.size) (a b : Int) (ha : a = (k : Int)) (hb : b = (m : Int)) (W : World) :
    (Instr.slice t (.string s) (some (.int .i64 a)) (some (.int .i64 b)) none).run P W = .ok (.string (s.extract k m)) W := by
  subst ha
  subst hb
  have h1 : max (m : Int) 0 = (m : Int) := by omega
  unfold Instr.slice
  simp [run_underlying ht, Instr.sliceBounds, Instr.sliceBound, asIntOf, hk, hm, h1]
end Herb
namespace Go.Proofs.YtdifdbkbpeanhaaDoor
open Go Go.RowKit Herb

/-- Numbers below ten. -/
theorem small_any (w : World) (n : Nat) (hn : n < 10) : Calls Tryd.prog 61 #[.int .i64 (n : Int)] w fun e w' => (∃ s : ByteArray, e = .returned (.string s) ∧ s.size ≤ 100) ∧ w = w' := by
  have d : decide ((n : Int) < 10) = true := decide_eq_true (by omega)
  have kc := fun W => run_cut_str (P := Tryd.prog) Tryd.underlying9 ⟨#[48, 49, 50, 51, 52, 53, 54, 55, 56, 57, 97, 98, 99, 100, 101, 102, 103, 104, 105, 106, 107, 108, 109, 110, 111, 112, 113, 114, 115, 116, 117, 118, 119, 120, 121, 122]⟩ n (n + 1) (by omega) (by show n + 1 ≤ 36; omega) (n : Int) ((n : Int) + 1) rfl (by omega) W
  go_enter Tryd.func61, Tryd.ntmps61
  go_wp2
  go_ret
  exact ⟨⟨_, rfl, by rw [ByteArray.size_extract]; omega⟩, rfl⟩
theorem formatInt_any (w : World) (n : Nat) (hn : n < 10) : Calls Tryd.prog 60 #[.int .i64 (n : Int), .int .i64 10] w fun e w' => (∃ s : ByteArray, e = .returned (.string s) ∧ s.size ≤ 100) ∧ w = w' := by
  have d : decide ((0 : Int) ≤ (n : Int)) = true := decide_eq_true (by omega)
  have d2 : decide ((n : Int) < 100) = true := decide_eq_true (by omega)
  go_enter Tryd.func60, Tryd.ntmps60
  go_wp2_with fail
  refine (small_any w n hn).mono ?_
  rintro _ _ ⟨⟨s, rfl, hs⟩, rfl⟩
  go_wp2
  go_ret
  exact ⟨⟨_, rfl, hs⟩, rfl⟩
theorem itoa1_any (w : World) (n : Nat) (hn : n < 10) : Calls Tryd.prog 58 #[.int .i64 (n : Int)] w fun e w' => (∃ s : ByteArray, e = .returned (.string s) ∧ s.size ≤ 100) ∧ w = w' := by
  go_enter Tryd.func58, Tryd.ntmps58
  go_wp2_with fail
  refine (formatInt_any w n hn).mono ?_
  rintro _ _ ⟨⟨s, rfl, hs⟩, rfl⟩
  go_wp2
  go_ret
  exact ⟨⟨_, rfl, hs⟩, rfl⟩
theorem itoa_any (w : World) (n : Nat) (hn : n < 10) (x : Int) (hx : x = (n : Int)) : Calls Tryd.prog 52 #[.int .i64 x] w fun e w' => (∃ s : ByteArray, e = .returned (.string s) ∧ s.size ≤ 100) ∧ w = w' := by
  subst hx
  go_enter Tryd.func52, Tryd.ntmps52
  go_wp2_with fail
  refine (itoa1_any w n hn).mono ?_
  rintro _ _ ⟨⟨s, rfl, hs⟩, rfl⟩
  go_wp2
  go_ret
  exact ⟨⟨_, rfl, hs⟩, rfl⟩

/-- A book at p: its sheets S. -/
def BookAt (w : World) (base p : Nat) (S : List Value) : Prop :=
  ∃ A c, Blk w p 48 #[.slice A S.length c] ∧ w.ownsRow base 78 1 (.slice A S.length c) S.length S

theorem mark_any (w : World) (p n : Nat) (A : Option Addr) (c : Nat) (hp : Blk w p 48 #[.slice A n c]) (hn : n < 9) :
    Calls Tryd.prog 34 #[.pointer (some ⟨p, 0, none⟩)] w fun e w' => (∃ s, e = .returned (.tuple #[.int .u64 ((n : Int) + 1), .string s])) ∧ w = w' := by
  have c0 : w.cell? ⟨p, 0, none⟩ = some (.slice A n c) := hp.cell 0
  have pi := fun W => itoa_any W (n + 1) (by omega) ((n : Int) + 1) (by omega)
  go_enter Tryd.func34, Tryd.ntmps34
  go_wp2_with fail
  refine (pi w).mono ?_
  rintro _ _ ⟨⟨s, rfl, hs⟩, rfl⟩
  go_wp2
  go_ret2
  exact ⟨⟨_, rfl⟩, rfl⟩

theorem own_neB {w : World} {base n size p : Nat} {e t : TypeId} {v : Value} {xs : List Value} {cs : Array Value} {fr : Nat × Nat} (h : w.ownsRow base e size v n xs) (hb : w.heap[p]? = some (Obj.cells cs t fr)) (hne : t ≠ e) : some p ≠ v.ownBlock := by
  rcases h.2 with ⟨rfl, _⟩ | ⟨g, cap, cur, rfl, _, hg, _⟩
  · simp [Value.ownBlock]
  · simp only [Value.ownBlock, ne_eq, Option.some.injEq]
    rintro rfl
    rw [hg] at hb
    injection hb with hb
    injection hb with _ ht
    exact hne ht.symm
theorem info_sheet : (Tryd.prog.info? 78).map (fun i => (i.zero, i.size, i.bytes)) = some (some .nilIface, 1, 16) := by kernel_rfl

/-- Blocks that are neither books nor rows of sheets lie as they lay. -/
structure KeepT (w w' : World) : Prop where
  os : w'.os = w.os
  tape : w'.tape = w.tape
  output : w'.output = w.output
  size : w.heap.size ≤ w'.heap.size
  block : ∀ (k : Nat) (cs : Array Value) (t : TypeId) (fr : Nat × Nat), w.heap[k]? = some (Obj.cells cs t fr) → t ≠ 48 → t ≠ 78 → w'.heap[k]? = some (Obj.cells cs t fr)

set_option maxHeartbeats 800000 in
theorem keep_any (w : World) (base p : Nat) (S : List Value) (hb : BookAt w base p S) (hbase : base ≤ w.heap.size) (hS : S.length < 9) (ti : TypeId) (vi : Value) :
    Calls Tryd.prog 35 #[.pointer (some ⟨p, 0, none⟩), .iface ti vi] w fun e w' => e = .returned (.tuple #[]) ∧ BookAt w' base p (S ++ [.iface ti vi]) ∧ KeepT w w' ∧ (base ≤ p → Below base w w') := by
  obtain ⟨A, c, hp, hown⟩ := hb
  obtain ⟨n, hn⟩ : ∃ n, S.length = n := ⟨_, rfl⟩
  rw [hn] at hp hown hS
  have c0 : w.cell? ⟨p, 0, none⟩ = some (.slice A n c) := hp.cell 0
  have hne := hp.lt
  have hp5 := hp.alloc (.cells #[.iface ti vi] 78)
  have hown5 := hown.alloc (.cells #[.iface ti vi] 78)
  have hne4 := own_neB hown5 hp5 (by decide)
  replace hne4 := Lib.hid hne4
  replace hn := Lib.hid hn
  go_enter Tryd.func35, Tryd.ntmps35
  go_wp2_with (first | (at_builtin; refine wpList_app _ rfl (.tmp 8) (.tmp 10) rfl Tryd.underlying46 info_sheet rfl (by omega) (hown.alloc _) rfl _ 1 1 (Rd.one w 78 (.iface ti vi)) rfl (oneCell_one rfl) (by unfold maxLen; omega) (by omega) (by simp; omega) ?_; intro v4 w4 hown4 hgrow4 _; obtain ⟨A4, c4, rfl⟩ := own_slice hown4; have hp4 := hp5.grown hgrow4 hne4.out; have c4' := hp4.cell 0; have f4 := hp4.frozen 0) | fail)
  go_end0
  have hp6 := hp4.store 0 (.slice A4 (n + 1) c4)
  have hown6 : (w4.setCell ⟨p, 0, none⟩ (.slice A4 (n + 1) c4)).ownsRow base 78 1 (.slice A4 (n + 1) c4) (n + 1) (S ++ [.iface ti vi]) := by
    refine hown4.kept (row := some p) ⟨rfl, rfl, rfl, by simp, fun k _ hk => heap_setCell_other w4 ⟨p, 0, none⟩ k _ (fun e => hk (by rw [e]))⟩ (.inr ?_)
    exact fun h => own_neB hown4 hp4 (by decide) h.symm
  have hl : (S ++ [Value.iface ti vi]).length = n + 1 := by rw [List.length_append, hn.out]; rfl
  refine ⟨rfl, ⟨A4, c4, ?_, ?_⟩, ⟨?_, ?_, ?_, ?_, ?_⟩, ?_⟩
  · rw [hl]; exact hp6
  · rw [hl]; exact hown6
  · exact hgrow4.os
  · exact hgrow4.tape
  · exact hgrow4.output
  · have := hgrow4.size; simp at this ⊢; omega
  · intro k cs t fr hk h1 h2
    have hlt : k < w.heap.size := (Array.getElem?_eq_some_iff.1 hk).1
    have hk1 : (w.alloc (Obj.cells #[Value.iface ti vi] 78)).heap[k]? = some (Obj.cells cs t fr) := (Below.heap_alloc w _ k hlt).trans hk
    have hk2 := (hgrow4.block k (by simp; omega) (own_neB hown5 hk1 h2)).trans hk1
    refine (heap_setCell_other w4 ⟨p, 0, none⟩ k _ ?_).trans hk2
    rintro rfl
    unfold Blk at hp
    rw [hp] at hk
    injection hk with hk
    injection hk with _ ht
    exact h1 ht.symm
  · intro hbp
    have b1 := below_app ((Below.refl base w).alloc hbase (.cells #[.iface ti vi] 78)) hown5 (Nat.le_refl _) (by simp; omega) hgrow4
    exact b1.setCell (p := ⟨p, 0, none⟩) hbp _

end Go.Proofs.YtdifdbkbpeanhaaDoor
