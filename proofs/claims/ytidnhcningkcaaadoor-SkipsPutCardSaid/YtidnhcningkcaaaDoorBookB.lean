/- Walks of the book: strconv's small numbers, mark, keep, Bytes. -/
import Derived.Test.YtidnhcningkcaaaDoorBookA
import Derived.Test.YtidnhcningkcaaaDoorApp
import Derived.RangeFuncOwn
set_option linter.unusedSimpArgs false
set_option linter.unusedVariables false
namespace Herb
open Go Go.RowKit
theorem run_cut_str {P : Program} {t : TypeId} (ht : P.underlying t = some .string) (s : ByteArray) (k m : Nat) (hk : k ≤ m) (hm : m ≤ s.size) (a b : Int) (ha : a = (k : Int)) (hb : b = (m : Int)) (W : World) :
    (Instr.slice t (.string s) (some (.int .i64 a)) (some (.int .i64 b)) none).run P W = .ok (.string (s.extract k m)) W := by
  subst ha
  subst hb
  have h1 : max (m : Int) 0 = (m : Int) := by omega
  unfold Instr.slice
  simp [run_underlying ht, Instr.sliceBounds, Instr.sliceBound, asIntOf, hk, hm, h1]
end Herb
namespace Go.Proofs.YtidnhcningkcaaaDoor
open Go Go.RowKit Herb

/-- Numbers below ten. -/
theorem small_1 (w : World) (n : Nat) (hn : n < 10) : Calls Tryd.prog 35 #[.int .i64 (n : Int)] w fun e w' => (∃ s : ByteArray, e = .returned (.string s) ∧ s.size ≤ 100) ∧ w = w' := by
  have d : decide ((n : Int) < 10) = true := decide_eq_true (by omega)
  have kc := fun W => run_cut_str (P := Tryd.prog) Tryd.underlying9 ⟨#[48, 49, 50, 51, 52, 53, 54, 55, 56, 57, 97, 98, 99, 100, 101, 102, 103, 104, 105, 106, 107, 108, 109, 110, 111, 112, 113, 114, 115, 116, 117, 118, 119, 120, 121, 122]⟩ n (n + 1) (by omega) (by show n + 1 ≤ 36; omega) (n : Int) ((n : Int) + 1) rfl (by omega) W
  go_enter Tryd.func35, Tryd.ntmps35
  go_wp2
  go_ret
  exact ⟨⟨_, rfl, by rw [ByteArray.size_extract]; omega⟩, rfl⟩
set_option maxRecDepth 100000 in
/-- Numbers of two digits. -/
theorem small_2 (w : World) (n : Nat) (hn : n < 100) (h10 : ¬ n < 10) : Calls Tryd.prog 35 #[.int .i64 (n : Int)] w fun e w' => (∃ s : ByteArray, e = .returned (.string s) ∧ s.size ≤ 100) ∧ w = w' := by
  have d : decide ((n : Int) < 10) = false := decide_eq_false (by omega)
  have kc := fun W => run_cut_str (P := Tryd.prog) Tryd.underlying9 ⟨#[48, 48, 48, 49, 48, 50, 48, 51, 48, 52, 48, 53, 48, 54, 48, 55, 48, 56, 48, 57, 49, 48, 49, 49, 49, 50, 49, 51, 49, 52, 49, 53, 49, 54, 49, 55, 49, 56, 49, 57, 50, 48, 50, 49, 50, 50, 50, 51, 50, 52, 50, 53, 50, 54, 50, 55, 50, 56, 50, 57, 51, 48, 51, 49, 51, 50, 51, 51, 51, 52, 51, 53, 51, 54, 51, 55, 51, 56, 51, 57, 52, 48, 52, 49, 52, 50, 52, 51, 52, 52, 52, 53, 52, 54, 52, 55, 52, 56, 52, 57, 53, 48, 53, 49, 53, 50, 53, 51, 53, 52, 53, 53, 53, 54, 53, 55, 53, 56, 53, 57, 54, 48, 54, 49, 54, 50, 54, 51, 54, 52, 54, 53, 54, 54, 54, 55, 54, 56, 54, 57, 55, 48, 55, 49, 55, 50, 55, 51, 55, 52, 55, 53, 55, 54, 55, 55, 55, 56, 55, 57, 56, 48, 56, 49, 56, 50, 56, 51, 56, 52, 56, 53, 56, 54, 56, 55, 56, 56, 56, 57, 57, 48, 57, 49, 57, 50, 57, 51, 57, 52, 57, 53, 57, 54, 57, 55, 57, 56, 57, 57]⟩ (n * 2) (n * 2 + 2) (by omega) (by show n * 2 + 2 ≤ 200; omega) ((n : Int) * 2) ((n : Int) * 2 + 2) (by omega) (by omega) W
  go_enter Tryd.func35, Tryd.ntmps35
  go_wp2
  go_ret
  exact ⟨⟨_, rfl, by rw [ByteArray.size_extract]; omega⟩, rfl⟩
theorem small_any (w : World) (n : Nat) (hn : n < 100) : Calls Tryd.prog 35 #[.int .i64 (n : Int)] w fun e w' => (∃ s : ByteArray, e = .returned (.string s) ∧ s.size ≤ 100) ∧ w = w' := by
  by_cases h : n < 10
  · exact small_1 w n h
  · exact small_2 w n hn h
theorem formatInt_any (w : World) (n : Nat) (hn : n < 100) : Calls Tryd.prog 34 #[.int .i64 (n : Int), .int .i64 10] w fun e w' => (∃ s : ByteArray, e = .returned (.string s) ∧ s.size ≤ 100) ∧ w = w' := by
  have d : decide ((0 : Int) ≤ (n : Int)) = true := decide_eq_true (by omega)
  have d2 : decide ((n : Int) < 100) = true := decide_eq_true (by omega)
  go_enter Tryd.func34, Tryd.ntmps34
  go_wp2_with fail
  refine (small_any w n hn).mono ?_
  rintro _ _ ⟨⟨s, rfl, hs⟩, rfl⟩
  go_wp2
  go_ret
  exact ⟨⟨_, rfl, hs⟩, rfl⟩
theorem itoa1_any (w : World) (n : Nat) (hn : n < 100) : Calls Tryd.prog 33 #[.int .i64 (n : Int)] w fun e w' => (∃ s : ByteArray, e = .returned (.string s) ∧ s.size ≤ 100) ∧ w = w' := by
  go_enter Tryd.func33, Tryd.ntmps33
  go_wp2_with fail
  refine (formatInt_any w n hn).mono ?_
  rintro _ _ ⟨⟨s, rfl, hs⟩, rfl⟩
  go_wp2
  go_ret
  exact ⟨⟨_, rfl, hs⟩, rfl⟩
theorem itoa_any (w : World) (n : Nat) (hn : n < 100) (x : Int) (hx : x = (n : Int)) : Calls Tryd.prog 32 #[.int .i64 x] w fun e w' => (∃ s : ByteArray, e = .returned (.string s) ∧ s.size ≤ 100) ∧ w = w' := by
  subst hx
  go_enter Tryd.func32, Tryd.ntmps32
  go_wp2_with fail
  refine (itoa1_any w n hn).mono ?_
  rintro _ _ ⟨⟨s, rfl, hs⟩, rfl⟩
  go_wp2
  go_ret
  exact ⟨⟨_, rfl, hs⟩, rfl⟩

/-- A book at p: its sheets S. -/
def BookAt (w : World) (base p : Nat) (S : List Value) : Prop :=
  ∃ A c, Blk w p 60 #[.slice A S.length c] ∧ w.ownsRow base 76 1 (.slice A S.length c) S.length S

theorem mark_any (w : World) (p n : Nat) (A : Option Addr) (c : Nat) (hp : Blk w p 60 #[.slice A n c]) (hn : n < 99) :
    Calls Tryd.prog 29 #[.pointer (some ⟨p, 0, none⟩)] w fun e w' => (∃ s, e = .returned (.tuple #[.int .u64 ((n : Int) + 1), .string s])) ∧ w = w' := by
  have c0 : w.cell? ⟨p, 0, none⟩ = some (.slice A n c) := hp.cell 0
  have pi := fun W => itoa_any W (n + 1) (by omega) ((n : Int) + 1) (by omega)
  go_enter Tryd.func29, Tryd.ntmps29
  go_wp2_with fail
  refine (pi w).mono ?_
  rintro _ _ ⟨⟨s, rfl, hs⟩, rfl⟩
  go_wp2
  go_ret2
  exact ⟨⟨_, rfl⟩, rfl⟩

theorem own_neB {w : World} {base n size p : Nat} {e t : TypeId} {v : Value} {xs : List Value} {cs : Array Value} {fr : Nat × Nat} (h : w.ownsRow base e size v n xs) (hb : w.heap[p]? = some (Obj.cells cs t fr)) (hne : t ≠ e) : some p ≠ v.ownBlock := by
  rcases h.2 with ⟨rfl, _⟩ | ⟨g, cap, cur, rfl, _, hg, _⟩
  · simp [Value.ownBlock]
  · simp only [Value.ownBlock, ne_eq, Option.some.injEq]
    rintro rfl
    rw [hg] at hb
    injection hb with hb
    injection hb with _ ht
    exact hne ht.symm
theorem info_sheet : (Tryd.prog.info? 76).map (fun i => (i.zero, i.size, i.bytes)) = some (some .nilIface, 1, 16) := by kernel_rfl

/-- Blocks that are neither books nor rows of sheets lie as they lay. -/
structure KeepT (w w' : World) : Prop where
  os : w'.os = w.os
  tape : w'.tape = w.tape
  output : w'.output = w.output
  size : w.heap.size ≤ w'.heap.size
  block : ∀ (k : Nat) (cs : Array Value) (t : TypeId) (fr : Nat × Nat), w.heap[k]? = some (Obj.cells cs t fr) → t ≠ 60 → t ≠ 76 → w'.heap[k]? = some (Obj.cells cs t fr)
  other : ∀ (k : Nat) (o : Obj), w.heap[k]? = some o → o.isCells = false → w'.heap[k]? = some o
theorem own_neO {w : World} {base n size p : Nat} {e : TypeId} {v : Value} {xs : List Value} {o : Obj} (h : w.ownsRow base e size v n xs) (hb : w.heap[p]? = some o) (ho : o.isCells = false) : some p ≠ v.ownBlock := by
  rintro he
  rcases h.2 with ⟨rfl, _⟩ | ⟨g', cap', cur, rfl, _, hg, _⟩
  · cases he
  · simp only [Value.ownBlock] at he
    cases he
    rw [hb] at hg
    cases hg
    cases ho

set_option maxHeartbeats 800000 in
theorem keep_any (w : World) (base p : Nat) (S : List Value) (hb : BookAt w base p S) (hbase : base ≤ w.heap.size) (hS : S.length < 99) (ti : TypeId) (vi : Value) :
    Calls Tryd.prog 30 #[.pointer (some ⟨p, 0, none⟩), .iface ti vi] w fun e w' => e = .returned (.tuple #[]) ∧ BookAt w' base p (S ++ [.iface ti vi]) ∧ KeepT w w' ∧ (base ≤ p → Below base w w') := by
  obtain ⟨A, c, hp, hown⟩ := hb
  obtain ⟨n, hn⟩ : ∃ n, S.length = n := ⟨_, rfl⟩
  rw [hn] at hp hown hS
  have c0 : w.cell? ⟨p, 0, none⟩ = some (.slice A n c) := hp.cell 0
  have hne := hp.lt
  have hp5 := hp.alloc (.cells #[.iface ti vi] 76)
  have hown5 := hown.alloc (.cells #[.iface ti vi] 76)
  have hne4 := own_neB hown5 hp5 (by decide)
  replace hne4 := Lib.hid hne4
  replace hn := Lib.hid hn
  go_enter Tryd.func30, Tryd.ntmps30
  go_wp2_with (first | (at_builtin; refine wpList_app _ rfl (.tmp 8) (.tmp 10) rfl Tryd.underlying58 info_sheet rfl (by omega) (hown.alloc _) rfl _ 1 1 (Rd.one w 76 (.iface ti vi)) rfl (oneCell_one rfl) (by unfold maxLen; omega) (by omega) (by simp; omega) ?_; intro v4 w4 hown4 hgrow4 _; obtain ⟨A4, c4, rfl⟩ := own_slice hown4; have hp4 := hp5.grown hgrow4 hne4.out; have c4' := hp4.cell 0; have f4 := hp4.frozen 0) | fail)
  go_end0
  have hp6 := hp4.store 0 (.slice A4 (n + 1) c4)
  have hown6 : (w4.setCell ⟨p, 0, none⟩ (.slice A4 (n + 1) c4)).ownsRow base 76 1 (.slice A4 (n + 1) c4) (n + 1) (S ++ [.iface ti vi]) := by
    refine hown4.kept (row := some p) ⟨rfl, rfl, rfl, by simp, fun k _ hk => heap_setCell_other w4 ⟨p, 0, none⟩ k _ (fun e => hk (by rw [e]))⟩ (.inr ?_)
    exact fun h => own_neB hown4 hp4 (by decide) h.symm
  have hl : (S ++ [Value.iface ti vi]).length = n + 1 := by rw [List.length_append, hn.out]; rfl
  refine ⟨rfl, ⟨A4, c4, ?_, ?_⟩, ⟨?_, ?_, ?_, ?_, ?_, ?_⟩, ?_⟩
  · rw [hl]; exact hp6
  · rw [hl]; exact hown6
  · exact hgrow4.os
  · exact hgrow4.tape
  · exact hgrow4.output
  · have := hgrow4.size; simp at this ⊢; omega
  · intro k cs t fr hk h1 h2
    have hlt : k < w.heap.size := (Array.getElem?_eq_some_iff.1 hk).1
    have hk1 : (w.alloc (Obj.cells #[Value.iface ti vi] 76)).heap[k]? = some (Obj.cells cs t fr) := (Below.heap_alloc w _ k hlt).trans hk
    have hk2 := (hgrow4.block k (by simp; omega) (own_neB hown5 hk1 h2)).trans hk1
    refine (heap_setCell_other w4 ⟨p, 0, none⟩ k _ ?_).trans hk2
    rintro rfl
    unfold Blk at hp
    rw [hp] at hk
    injection hk with hk
    injection hk with _ ht
    exact h1 ht.symm
  · intro k o hk ho
    have hlt : k < w.heap.size := (Array.getElem?_eq_some_iff.1 hk).1
    have hk1 : (w.alloc (Obj.cells #[Value.iface ti vi] 76)).heap[k]? = some o := (Below.heap_alloc w _ k hlt).trans hk
    have hk2 := (hgrow4.block k (by simp; omega) (own_neO hown5 hk1 ho)).trans hk1
    refine (heap_setCell_other w4 ⟨p, 0, none⟩ k _ ?_).trans hk2
    rintro rfl
    unfold Blk at hp
    rw [hp] at hk
    cases hk
    cases ho
  · intro hbp
    have b1 := below_app ((Below.refl base w).alloc hbase (.cells #[.iface ti vi] 76)) hown5 (Nat.le_refl _) (by simp; omega) hgrow4
    exact b1.setCell (p := ⟨p, 0, none⟩) hbp _

/-- The sheet of some bytes. -/
def sheetB (A : Option Addr) (n c m : Nat) : Value := .iface 74 (.agg #[.slice A n c, .int .u8 (m : Int)])
set_option maxHeartbeats 800000 in
theorem bytes_any (w : World) (base p : Nat) (S : List Value) (hb : BookAt w base p S) (hbase : base ≤ w.heap.size) (k : Nat) (hS : S.length = k) (hk : k < 98) (A : Option Addr) (n c : Nat) :
    Calls Tryd.prog 24 #[.pointer (some ⟨p, 0, none⟩), .slice A n c] w fun e w' => e = .returned (.tuple #[]) ∧ BookAt w' base p (S ++ [sheetB A n c (k + 1)]) ∧ KeepT w w' ∧ (base ≤ p → Below base w w') := by
  have hb' := hb
  obtain ⟨Ab, cb, hp, _⟩ := hb'
  rw [hS] at hp
  have pm := mark_any w p k Ab cb hp (by omega)
  have pk := keep_any w base p S hb hbase (by omega) 74 (.agg #[.slice A n c, .int .u8 ((k : Int) + 1)])
  have e1 : sheetB A n c (k + 1) = .iface 74 (.agg #[.slice A n c, .int .u8 ((k : Int) + 1)]) := rfl
  rw [e1]
  replace pk := Lib.hid pk
  clear e1 hb hS
  go_enter Tryd.func24, Tryd.ntmps24
  go_wp2_with fail
  refine pm.mono ?_
  rintro _ _ ⟨⟨s, rfl⟩, rfl⟩
  go_wp2_with fail
  refine pk.out.mono ?_
  rintro _ w2 ⟨rfl, h1, h2, h3⟩
  go_wp2
  go_end0
  exact ⟨rfl, h1, h2, h3⟩
end Go.Proofs.YtidnhcningkcaaaDoor
