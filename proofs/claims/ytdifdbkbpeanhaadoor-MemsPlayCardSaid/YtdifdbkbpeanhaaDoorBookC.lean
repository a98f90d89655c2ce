/- Walk of the book's Apart at bytes: sheets in blocks of their own. -/
import Derived.Test.YtdifdbkbpeanhaaDoorBookB
set_option linter.unusedSimpArgs false
set_option linter.unusedVariables false
namespace Go.Proofs.YtdifdbkbpeanhaaDoor
open Go Go.RowKit Herb

/-- A sheet of bytes, and its mark. -/
structure Sh where
  A : Option Addr
  n : Nat
  c : Nat
  m : UInt8
/-- The sheets lie in blocks of their own; the first f cells of each hold its mark. -/
def ShSt (w : World) (Q : List Sh) (f : Nat → Nat) : Prop :=
  ∀ j (h : j < Q.length), (Q[j].n ≤ Q[j].c) ∧ Q[j].c ≤ 9223372036854775807 ∧ (Q[j].c = 0 ∨ ∃ g cs, Q[j].A = some ⟨g, 0, none⟩ ∧ Blk w g 5 cs ∧ Q[j].c ≤ cs.size ∧ f j ≤ Q[j].c ∧ ∀ x, x < f j → cs[x]? = some (.int .u8 (Q[j].m.toNat : Int)))
def ShDis (Q : List Sh) : Prop := ∀ i j (hi : i < Q.length) (hj : j < Q.length), i ≠ j → ∀ g g', Q[i].c ≠ 0 → Q[j].c ≠ 0 → Q[i].A = some ⟨g, 0, none⟩ → Q[j].A = some ⟨g', 0, none⟩ → g ≠ g'
def ShUp (B : Nat) (Q : List Sh) : Prop := ∀ i (hi : i < Q.length), Q[i].c ≠ 0 → ∀ g, Q[i].A = some ⟨g, 0, none⟩ → B ≤ g

theorem BookAt.below {w w' : World} {base p : Nat} {S : List Value} (h : BookAt w base p S) (hb : Below w.heap.size w w') : BookAt w' base p S := by
  obtain ⟨A, c, h1, h2⟩ := h
  exact ⟨A, c, h1.below hb h1.lt, h2.kept (row := none) ⟨hb.os, hb.tape, hb.output, hb.size, fun k hk _ => hb.block k hk⟩ (by cases (Value.slice A S.length c).ownBlock <;> simp)⟩
theorem BookAt.keepG {w w' : World} {base p g : Nat} {S : List Value} {cs : Array Value} (h : BookAt w base p S) (hg : Blk w g 5 cs) (hk : KeepG g w w') : BookAt w' base p S := by
  obtain ⟨A, c, h1, h2⟩ := h
  exact ⟨A, c, hk.blk h1 (h1.ne_ hg (by decide)), h2.kept (row := some g) ⟨hk.os, hk.tape, hk.output, hk.size, fun k hk2 hn => hk.block k hk2 (fun e => hn (by rw [e]))⟩ (.inr (fun e => own_neB h2 hg (by decide) e.symm))⟩

theorem ShSt.congr {w : World} {Q : List Sh} {f f' : Nat → Nat} (h : ShSt w Q f) (e : ∀ j, j < Q.length → f j = f' j) : ShSt w Q f' := by
  intro j hj
  obtain ⟨h1, h2, h3⟩ := h j hj
  rw [e j hj] at h3
  exact ⟨h1, h2, h3⟩
theorem ShSt.below {w w' : World} {Q : List Sh} {f : Nat → Nat} (h : ShSt w Q f) (hb : Below w.heap.size w w') : ShSt w' Q f := by
  intro j hj
  obtain ⟨h1, h2, h3⟩ := h j hj
  refine ⟨h1, h2, h3.imp id ?_⟩
  rintro ⟨g, cs, e, hg, rest⟩
  exact ⟨g, cs, e, hg.below hb hg.lt, rest⟩
theorem ShSt.step {w w' : World} {Q : List Sh} {f : Nat → Nat} (h : ShSt w Q f) (hdis : ShDis Q) {i F g : Nat} (hi : i < Q.length) (hc : Q[i].c ≠ 0) (hA : Q[i].A = some ⟨g, 0, none⟩) {cs' : Array Value} (hg : Blk w' g 5 cs') (hs : Q[i].c ≤ cs'.size) (hF : F ≤ Q[i].c)
    (hv : ∀ x, x < F → cs'[x]? = some (.int .u8 (Q[i].m.toNat : Int))) (hk : KeepG g w w') : ShSt w' Q (fun j => if j = i then F else f j) := by
  intro j hj
  obtain ⟨h1, h2, h3⟩ := h j hj
  refine ⟨h1, h2, ?_⟩
  by_cases e : j = i
  · subst e
    exact .inr ⟨g, cs', hA, hg, hs, by simpa using hF, by simpa using hv⟩
  · rcases h3 with h3 | ⟨g', cs, e1, e2, e3, e4, e5⟩
    · exact .inl h3
    · by_cases hc0 : Q[j].c = 0
      · exact .inl hc0
      · exact .inr ⟨g', cs, e1, hk.blk e2 (hdis j i hj hi e g' g hc0 hc e1 hA), e3, by simpa [e] using e4, by simpa [e] using e5⟩
theorem ShSt.step0 {w w' : World} {Q : List Sh} {f : Nat → Nat} (h : ShSt w Q f) {i F : Nat} (hi : i < Q.length) (hc : Q[i].c = 0) (hb : Below w.heap.size w w') : ShSt w' Q (fun j => if j = i then F else f j) := by
  intro j hj
  obtain ⟨h1, h2, h3⟩ := h.below hb j hj
  refine ⟨h1, h2, ?_⟩
  by_cases e : j = i
  · subst e; exact .inl hc
  · simpa [e] using h3

/-- How much of each sheet holds its mark: behind i sheets of a round. -/
def shF (Q : List Sh) (a b : Sh → Nat) (i j : Nat) : Nat := match Q[j]? with | some q => if j < i then b q else a q | none => 0
theorem shF_step (Q : List Sh) (a b : Sh → Nat) (i j : Nat) (hj : j < Q.length) (hi : i < Q.length) : (if j = i then b Q[i] else shF Q a b i j) = shF Q a b (i + 1) j := by
  unfold shF
  rw [List.getElem?_eq_getElem hj]
  by_cases e : j = i
  · subst e; simp
  · simp only [if_neg e]
    by_cases e2 : j < i
    · rw [if_pos e2, if_pos (by omega)]
    · rw [if_neg e2, if_neg (by omega)]
theorem shF_at (Q : List Sh) (a b : Sh → Nat) (i : Nat) (hi : i < Q.length) : shF Q a b i i = a Q[i] := by
  unfold shF
  rw [List.getElem?_eq_getElem hi]
  simp
theorem shF_end (Q : List Sh) (a b d : Sh → Nat) (i j : Nat) (hj : j < Q.length) (hi : Q.length ≤ i) : shF Q a b i j = shF Q b d 0 j := by
  unfold shF
  rw [List.getElem?_eq_getElem hj]
  simp only
  rw [if_pos (by omega), if_neg (by omega)]

end Go.Proofs.YtdifdbkbpeanhaaDoor
