/- What a mem is behind puts: plain, and the contract of Put by it. -/
import Derived.Test.YtdifdbkbpeanhaaDoorMemVoid
import Derived.Test.YtdifdbkbpeanhaaDoorKeyOrd
import Derived.Test.YtdifdbkbpeanhaaDoorSkOrd
set_option linter.unusedSimpArgs false
set_option linter.unusedVariables false
namespace Herb
open Go Go.RowKit
/-- A fact's key in bytes. -/
def keyF (f : Ft) : List UInt8 := putL f.k f.va f.se f.ki
/-- A mem: what its list tells, its facts, its bytes. -/
structure MSt where
  M : List (List UInt8 × Int)
  fs : List Ft
  b : Int
def MSt.none : MSt := ⟨[], [], 0⟩
/-- One fact more. -/
def stepM (s : MSt) (f : Ft) (H : Int) : Int × MSt :=
  if mayB f.k f.se f.ki = false then (1, s)
  else if H < 1 ∨ 8 < H then (1, s)
  else if hasM s.M (keyF f) = true then (8, s)
  else (0, ⟨insM s.M (keyF f) s.fs.length, s.fs ++ [f], s.b + ((keyF f).length + f.v.size : Nat)⟩)
/-- How the parts of a mem fit, at most n puts done. -/
structure MOk (s : MSt) (n : Nat) : Prop where
  len : s.M.length = s.fs.length
  rises : Rises s.M
  at_ : ∀ x ∈ s.M, ∃ (i : Nat) (f : Ft), s.fs[i]? = some f ∧ x.2 = (i : Int) ∧ keyF f = x.1
  fit : ∀ f ∈ s.fs, f.fit ∧ mayB f.k f.se f.ki = true ∧ f.v.size ≤ 1000
  few : s.fs.length ≤ n
  b0 : 0 ≤ s.b
  b1 : s.b ≤ n * 3000
theorem MOk.none : MOk MSt.none 0 := ⟨rfl, List.Pairwise.nil, fun x h => (by cases h), fun x h => (by cases h), by simp [MSt.none], by simp [MSt.none], by simp [MSt.none]⟩
theorem MOk.up {s : MSt} {n m : Nat} (h : MOk s n) (hm : n ≤ m) : MOk s m := ⟨h.len, h.rises, h.at_, h.fit, by have := h.few; omega, h.b0, by have := h.b1; omega⟩
theorem keyF_len {f : Ft} (h : mayB f.k f.se f.ki = true) : (keyF f).length ≤ 100 := by
  have hk32 : f.k.size ≤ 32 := by unfold mayB at h; simp at h; omega
  unfold keyF putL
  rw [List.length_append, tailL_length]
  have := esc_length f.k.data.toList
  have e : f.k.data.toList.length = f.k.size := rfl
  omega
end Herb
namespace Herb
open Go Go.RowKit
theorem insM_memB {M : List (List UInt8 × Int)} {K : List UInt8} {n : Int} {x : List UInt8 × Int} (hh : hasM M K = false) : x ∈ insM M K n ↔ x ∈ M ∨ x = (K, n) := by
  have := putM_mem (M := M) (K := K) (n := n) (x := x)
  unfold putM at this
  rw [if_neg (by rw [hh]; simp)] at this
  rw [this]
  simp [hh]
theorem MOk.step {s : MSt} {n : Nat} (h : MOk s n) (f : Ft) (H : Int) (hf : f.fit) (hv : f.v.size ≤ 1000) : MOk (stepM s f H).2 (n + 1) := by
  unfold stepM
  split
  · exact h.up (by omega)
  · split
    · exact h.up (by omega)
    · split
      · exact h.up (by omega)
      · rename_i h1 h2 h3
        have hm : mayB f.k f.se f.ki = true := by simpa using h1
        have hh : hasM s.M (keyF f) = false := by simpa using h3
        have hl := keyF_len hm
        refine ⟨?_, h.rises.ins _ _ hh, ?_, ?_, ?_, ?_, ?_⟩
        · show (insM s.M (keyF f) s.fs.length).length = (s.fs ++ [f]).length
          rw [insM_length, h.len, List.length_append]
          rfl
        · intro x hx
          rcases (insM_memB hh).1 hx with hx | rfl
          · obtain ⟨i, g, hg, h1, h2⟩ := h.at_ x hx
            refine ⟨i, g, ?_, h1, h2⟩
            show (s.fs ++ [f])[i]? = some g
            rw [List.getElem?_append_left (List.getElem?_eq_some_iff.1 hg).1]
            exact hg
          · exact ⟨s.fs.length, f, by show (s.fs ++ [f])[s.fs.length]? = some f; simp, rfl, rfl⟩
        · intro g hg
          rcases List.mem_append.1 hg with hg | hg
          · exact h.fit g hg
          · obtain rfl := List.mem_singleton.1 hg
            exact ⟨hf, hm, hv⟩
        · show (s.fs ++ [f]).length ≤ n + 1
          have := h.few
          simp; omega
        · show 0 ≤ s.b + _
          have := h.b0
          omega
        · show s.b + _ ≤ _
          have := h.b1
          omega
end Herb
namespace Go.Proofs.YtdifdbkbpeanhaaDoor
open Go Go.RowKit Herb
/-- A mem in memory that is as its state says. -/
def MemS (w : World) (base q p g : Nat) (A : Option Addr) (cap : Nat) (s : MSt) (fr : Bool) : Prop := MemAt w base q p g A cap s.M s.fs s.b fr
theorem mput_step {w : World} {base q p g cap : Nat} {A : Option Addr} {s : MSt} {n : Nat} (h : MemS w base q p g A cap s false) (ok : MOk s n) (hn : n ≤ 1000) (f : Ft) (hf : f.fit) (hv : f.v.size ≤ 1000) (H : Int) :
    Calls Tryd.prog 9 #[.pointer (some ⟨q, 0, none⟩), f.val, .int .i64 H] w fun e w' => ∃ g' A' cap', e = .returned (.int .i64 (stepM s f H).1) ∧ MemS w' base q p g' A' cap' (stepM s f H).2 false ∧
      KeepBut (memS q p g A s.fs.length cap) w w' ∧ (∀ k, memS q p g' A' (stepM s f H).2.fs.length cap' k → memS q p g A s.fs.length cap k ∨ w.heap.size ≤ k) := by
  have hfl := ok.few
  have hMl := ok.len
  unfold stepM
  by_cases h1 : mayB f.k f.se f.ki = false
  · rw [if_pos h1]
    refine (mput_no h f H h1).mono ?_
    rintro _ w' ⟨rfl, hb⟩
    exact ⟨g, A, cap, rfl, h.below hb, KeepBut.of_below hb, fun k hk => .inl hk⟩
  · rw [if_neg h1]
    have h1' : mayB f.k f.se f.ki = true := by simpa using h1
    by_cases h2 : H < 1 ∨ 8 < H
    · rw [if_pos h2]
      refine (mput_bad h (by omega) (by omega) f hf H h1' h2).mono ?_
      rintro _ w' ⟨rfl, hb⟩
      exact ⟨g, A, cap, rfl, h.below hb, KeepBut.of_below hb, fun k hk => .inl hk⟩
    · rw [if_neg h2]
      by_cases h3 : hasM s.M (keyF f) = true
      · rw [if_pos h3]
        refine (mput_there h (by omega) (by omega) f hf H h1' (by omega) (by omega) h3).mono ?_
        rintro _ w' ⟨rfl, hb⟩
        exact ⟨g, A, cap, rfl, h.below hb, KeepBut.of_below hb, fun k hk => .inl hk⟩
      · rw [if_neg h3]
        have hl : (Herb.putL f.k f.va f.se f.ki).length ≤ 100 := keyF_len h1'
        have hb1 := ok.b1
        refine (mput_new h (by omega) (by omega) f hf H h1' (by omega) (by omega) (show hasM s.M (keyF f) = false by simpa using h3) ok.b0 (by omega)).mono ?_
        rintro _ w' ⟨g', A', cap', rfl, hm, hk, hb⟩
        exact ⟨g', A', cap', rfl, hm, hk, hb⟩
end Go.Proofs.YtdifdbkbpeanhaaDoor
