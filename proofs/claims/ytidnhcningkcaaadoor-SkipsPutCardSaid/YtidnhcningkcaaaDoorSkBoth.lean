/- A list and the document's list side by side. -/
import Derived.Test.YtidnhcningkcaaaDoorSkRef
set_option linter.unusedSimpArgs false
set_option linter.unusedVariables false
namespace Go.Proofs.YtidnhcningkcaaaDoor
open Go Go.RowKit Herb
theorem stepK_rises {M : List (List UInt8 × Int)} (h : Rises M) (K : List UInt8) (z H : Int) : Rises (stepK M K z H).2 := by
  unfold stepK
  split
  · exact h
  · split
    · exact h
    · rename_i h3
      exact h.ins _ _ (by simpa using h3)
theorem stepK_len (M : List (List UInt8 × Int)) (K : List UInt8) (z H : Int) : (stepK M K z H).2.length ≤ M.length + 1 := by
  unfold stepK
  split
  · exact Nat.le_succ _
  · split
    · exact Nat.le_succ _
    · rw [insM_length]
      exact Nat.le_refl _
end Go.Proofs.YtidnhcningkcaaaDoor
namespace Go.Proofs.YtidnhcningkcaaaDoor
open Go Go.RowKit Herb
section
variable {w w' : World} {base p g r c : Nat} {A : Option Addr} {M L : List (List UInt8 × Int)}
theorem blk_neT {k k' : Nat} {cs cs' : Array Value} {t t' : TypeId} {f f' : Nat × Nat} (h : w.heap[k]? = some (.cells cs t f)) (h' : w.heap[k']? = some (.cells cs' t' f')) (hne : t ≠ t') : k ≠ k' := by
  rintro rfl
  rw [h] at h'
  injection h' with h'
  injection h' with _ h2 _
  exact hne h2
theorem RefK.keepSk (h : RefK w base r A c L) (hs : SkL w base p g M) (hk : KeepBut (fun k => k = p ∨ k = g) w w') : RefK w' base r A c L := by
  obtain ⟨⟨c1, f1, t1⟩, ⟨c2, f2, t2⟩⟩ := hs.types
  have hb : w.heap[r]? = _ := h.box
  refine ⟨(hk.block r h.box.lt (by rintro (e | e) <;> subst e; exact blk_neT hb t1 (by decide) rfl; exact blk_neT hb t2 (by decide) rfl)).trans h.box, ⟨h.row.1, ?_⟩, h.rb⟩
  rcases h.row.2 with ⟨h1, h0⟩ | ⟨g', cap', cur, hv, hb', hgg, hc⟩
  · exact .inl ⟨h1, h0⟩
  · exact .inr ⟨g', cap', cur, hv, hb', (hk.block g' (Array.getElem?_eq_some_iff.1 hgg).1 (by rintro (e | e) <;> subst e; exact blk_neT hgg t1 (by decide) rfl; exact blk_neT hgg t2 (by decide) rfl)).trans hgg, hc⟩
theorem SkL.keepR (hs : SkL w base p g M) (h : RefK w base r A c L) (hk : KeepBut (fun k => k = r) w w') : SkL w' base p g M := by
  obtain ⟨⟨c1, f1, t1⟩, ⟨c2, f2, t2⟩⟩ := hs.types
  have hb : w.heap[r]? = _ := h.box
  exact hs.keep hk (fun e => blk_neT t1 (e ▸ hb) (by decide) rfl) (fun e => blk_neT t2 (e ▸ hb) (by decide) rfl) (fun k cs fr hk1 e => blk_neT hk1 (e ▸ hb) (by decide) rfl)
end
/-- Put at whatever height. -/
theorem sput_any (w : World) (base p g : Nat) (M : List (List UInt8 × Int)) (hS : SkL w base p g M) (hbase : base ≤ w.heap.size) (hM : M.length ≤ 100000) (K : List UInt8) (A : Option Addr) (n c : Nat) (hn : K.length = n) (hn2 : n ≤ 140737488355328) (hb : Bs w A K) (z H : Int) :
    Calls Tryd.prog 8 #[.pointer (some ⟨p, 0, none⟩), .slice A n c, .int .i64 z, .int .i64 H] w fun e w' => ∃ g', e = .returned (.int .i64 (stepK M K z H).1) ∧ SkL w' base p g' (stepK M K z H).2 ∧ KeepBut (fun k => k = p ∨ k = g) w w' ∧ (g' = g ∨ w.heap.size ≤ g') := by
  unfold stepK
  by_cases h1 : H < 1 ∨ 8 < H
  · rw [if_pos h1]
    refine (putL_bad w base p g M hS A n c z H h1).mono ?_
    rintro _ _ ⟨rfl, rfl⟩
    exact ⟨g, rfl, hS, KeepBut.refl _, .inl rfl⟩
  · rw [if_neg h1]
    rcases hh : hasM M K with _ | _
    · rw [if_neg (by simp)]
      exact putL_new w base p g M hS hM K A n c hn hn2 hb z H (by omega) (by omega) hh
    · rw [if_pos rfl]
      refine (putL_there w base p g M hS hM K A n c hn hb z H (by omega) (by omega) hh).mono ?_
      rintro _ w' ⟨rfl, h2⟩
      exact ⟨g, rfl, hS.below h2, KeepBut.of_below h2, .inl rfl⟩
end Go.Proofs.YtidnhcningkcaaaDoor
