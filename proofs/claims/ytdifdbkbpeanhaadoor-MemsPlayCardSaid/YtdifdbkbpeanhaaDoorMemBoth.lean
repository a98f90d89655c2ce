/- A mem and the document's mem side by side. -/
import Derived.Test.YtdifdbkbpeanhaaDoorMemRef
import Derived.Test.YtdifdbkbpeanhaaDoorMemLives
set_option linter.unusedSimpArgs false
set_option linter.unusedVariables false
namespace Go
/-- What a region keeps may be strengthened on the way. -/
theorem wpAnyH_mono {P : Program} {md : Region.Mode} {ops : Array Oper} {Q : Exit → Act → World → Prop} {S S' : World → Prop} (hS : ∀ w, S' w → S w) : ∀ (fuel : Nat) (listed : Array Bool) (a : Act) (w : World), wpAnyH P md ops Q S' fuel listed a w → wpAnyH P md ops Q S fuel listed a w
  | 0, _, _, _, h => h
  | fuel + 1, _, _, _, h => ⟨h.1, fun i hi => wpOp_mono (fun a' w' h' => ⟨hS w' h'.1, wpAnyH_mono hS fuel _ a' w' h'.2⟩) (h.2 i hi)⟩
/-- A take whose place is told: the frame does not grow by a layer. -/
theorem wpAnyH_take_at {P : Program} {md : Region.Mode} {ops : Array Oper} {Q : Exit → Act → World → Prop} {S : World → Prop} {i : Nat} {oi : Oper} {v : Value} {fuel : Nat} {listed : Array Bool} {a : Act} {w : World} (d : Nat) (hi : ops[i]? = some oi) (hd : oi.dst = some d)
    (hs : Region.noSelect ops = true) (hf : Region.free md ops listed i = true) (hr : (Region.ready md ops listed).contains i = true)
    (hQ : ∀ c a w, Q (.panic c) (a.put (some d) v) w → Q (.panic c) a w) (hy : YieldsIf P ops S oi v a) (hS : S w)
    (h : wpAnyH P md ops Q S fuel (listed.setIfInBounds i true) { a with tmps := a.tmps.setIfInBounds d v } w) : wpAnyH P md ops Q S (fuel + 1) listed a w :=
  wpAnyH_take hi hs hf hr (by rw [hd]; exact hQ) hy hS (by rw [hd]; exact h)
end Go
namespace Herb
open Go Go.RowKit
/-- One put more, frozen or not. -/
def stepB (s : MSt) (f : Ft) (H : Int) (fr : Bool) : Int × MSt := if fr = true then (12, s) else stepM s f H
def refB (L : List Ft) (f : Ft) (H : Int) (fr : Bool) : Int × List Ft := if fr = true then (12, L) else refPutL L f H
/-- What a mem tells. -/
def toldB (s : MSt) : List Ft := placed s.fs s.M
structure MSame (s : MSt) (n : Nat) : Prop where
  ok : MOk s n
  b : s.b = (sizesT (toldB s) : Int)
theorem MSame.none : MSame MSt.none 0 := ⟨MOk.none, rfl⟩
theorem MSame.step {s : MSt} {n : Nat} (h : MSame s n) (f : Ft) (H : Int) (fr : Bool) (hf : f.fit) (hv : f.v.size ≤ 1000) : MSame (stepB s f H fr).2 (n + 1) ∧ refB (toldB s) f H fr = ((stepB s f H fr).1, toldB (stepB s f H fr).2) := by
  unfold stepB refB
  cases fr
  · obtain ⟨h1, h2⟩ := h.ok.refPut hf H h.b
    exact ⟨⟨h.ok.step f H hf hv, h2⟩, h1⟩
  · exact ⟨⟨h.ok.up (by omega), h.b⟩, rfl⟩
theorem MSame.len {s : MSt} {n : Nat} (h : MSame s n) : (toldB s).length = s.fs.length := by
  unfold toldB
  rw [placed_length, h.ok.len]
theorem MSame.all {s : MSt} {n : Nat} (h : MSame s n) : ∀ f ∈ toldB s, f.fit ∧ mayB f.k f.se f.ki = true ∧ f.v.size ≤ 1000 := by
  intro f hf
  obtain ⟨x, hx, rfl⟩ := List.mem_map.1 hf
  exact h.ok.fit _ (h.ok.told hx).2
end Herb
namespace Go.Proofs.YtdifdbkbpeanhaaDoor
open Go Go.RowKit Herb

structure Both (w : World) (base q p g : Nat) (A : Option Addr) (cap : Nat) (s : MSt) (r : Nat) (Ar : Option Addr) (c : Nat) (L : List Ft) (fr : Bool) : Prop where
  m : MemS w base q p g A cap s fr
  rf : RefAt w base r Ar c L fr
  sep : ∀ k, memS q p g A s.fs.length cap k → ¬ refS r Ar L.length c k
section
variable {w w' : World} {base q p g cap r c n : Nat} {A Ar : Option Addr} {s : MSt} {L : List Ft} {fr : Bool}
theorem Both.below (h : Both w base q p g A cap s r Ar c L fr) (hb : Below w.heap.size w w') : Both w' base q p g A cap s r Ar c L fr :=
  ⟨MemAt.below h.m hb, h.rf.below hb, h.sep⟩
theorem MemS.row (h : MemS w base q p g A cap s fr) {k : Nat} (hk : memS q p g A s.fs.length cap k) : base ≤ k ∧ k < w.heap.size := by
  obtain ⟨h1, h2, _⟩ := MemAt.blocks h hk
  exact ⟨h1, h2⟩
theorem both_mput (h : Both w base q p g A cap s r Ar c L fr) (hbase : base ≤ w.heap.size) (ok : MOk s n) (hn : n ≤ 1000) (f : Ft) (hf : f.fit) (hv : f.v.size ≤ 1000) (H : Int) :
    Calls Tryd.prog 9 #[.pointer (some ⟨q, 0, none⟩), f.val, .int .i64 H] w fun e w' => ∃ g' A' cap', e = .returned (.int .i64 (stepB s f H fr).1) ∧ Both w' base q p g' A' cap' (stepB s f H fr).2 r Ar c L fr ∧ Below base w w' := by
  unfold stepB
  cases fr
  · refine (mput_step h.m ok hn f hf hv H).mono ?_
    rintro _ w' ⟨g', A', cap', rfl, hm, hk, hnew⟩
    refine ⟨g', A', cap', rfl, ⟨hm, h.rf.keep hk (fun k hk1 hk2 => h.sep k hk2 hk1), fun k hk1 hk2 => ?_⟩, MemAt.putB h.m hk hbase⟩
    rcases hnew k hk1 with h1 | h1
    · exact h.sep k h1 hk2
    · have := (h.rf.blocks hk2).2
      omega
  · refine (mput_frozen h.m f H).mono ?_
    rintro _ w' ⟨rfl, hb⟩
    exact ⟨g, A, cap, rfl, h.below hb, hb.mono hbase⟩
theorem both_rput (h : Both w base q p g A cap s r Ar c L fr) (hbase : base ≤ w.heap.size) (hL : L.length ≤ 1000) (f : Ft) (H : Int) :
    Calls Tryd.prog 10 #[.pointer (some ⟨r, 0, none⟩), f.val, .int .i64 H] w fun e w' => ∃ Ar' c', e = .returned (.int .i64 (refB L f H fr).1) ∧ Both w' base q p g A cap s r Ar' c' (refB L f H fr).2 fr ∧ Below base w w' := by
  unfold refB
  have hrb := h.rf.rb
  cases fr
  · refine (rput_any w base r c Ar L h.rf hbase hL f H).mono ?_
    rintro _ w' ⟨A', c', rfl, hr, hk, hnew⟩
    refine ⟨A', c', rfl, ⟨MemAt.keep h.m hk (fun k hk1 hk2 => h.sep k hk1 (.inl hk2)) (fun k cs fr2 hk1 hk2 => ?_), hr, fun k hk1 hk2 => ?_⟩, ?_⟩
    · subst hk2
      have hbx : w.heap[k]? = _ := h.rf.box
      exact ty_ne hk1 hbx (by decide) rfl
    · rcases hnew k hk2 with h1 | h1
      · exact h.sep k hk1 h1
      · have := (MemS.row h.m hk1).2
        omega
    · exact ⟨hk.os, hk.tape, hk.output, hk.size, fun k hlt => hk.block k (by omega) (fun e => by omega)⟩
  · refine (rput_frozen w base r c Ar L h.rf f H).mono ?_
    rintro _ w' ⟨rfl, hb⟩
    exact ⟨Ar, c, rfl, h.below hb, hb.mono hbase⟩
/-- Frozen, both. -/
theorem both_freeze (h : Both w base q p g A cap s r Ar c L fr) (hbase : base ≤ w.heap.size) :
    Calls Tryd.prog 8 #[.pointer (some ⟨q, 0, none⟩)] w fun e w' => e = .returned (.tuple #[]) ∧ Blk w' r 38 #[.slice Ar L.length c, .bool fr] ∧ Both (w'.setCell ⟨r, 1, none⟩ (.bool true)) base q p g A cap s r Ar c L true ∧ Below base w w' ∧ Below base w (w'.setCell ⟨r, 1, none⟩ (.bool true)) := by
  have hrb := h.rf.rb
  have hqb := h.m.qb
  refine (mfreeze_any h.m).mono ?_
  rintro _ w' ⟨rfl, hm, hk⟩
  have hr := h.rf.keep hk (fun k hk1 hk2 => h.sep k (.inl hk2) hk1)
  have hb : Below base w w' := ⟨hk.os, hk.tape, hk.output, hk.size, fun k hlt => hk.block k (by omega) (fun e => by omega)⟩
  have hk2 : KeepBut (fun k => k = r) w' (w'.setCell ⟨r, 1, none⟩ (.bool true)) := KeepBut.set_at w' r 1 _
  have hbx : w'.heap[r]? = _ := hr.box
  refine ⟨rfl, hr.box, ⟨MemAt.keep hm hk2 (fun k hk1 hk2 => h.sep k hk1 (.inl hk2)) (fun k cs fr2 hk1 hk2 => ?_), ⟨hr.box.store 1 (.bool true), own_keep hr.row hk2 (fun k e hk3 => ?_), hrb⟩, h.sep⟩, hb, hb.setCell (p := ⟨r, 1, none⟩) hrb _⟩
  · subst hk2
    exact ty_ne hk1 hbx (by decide) rfl
  · subst hk3
    obtain ⟨_, _, c3, f3, t3⟩ := own_ty hr.row e
    exact ty_ne t3 hbx (by decide) rfl
end
end Go.Proofs.YtdifdbkbpeanhaaDoor
