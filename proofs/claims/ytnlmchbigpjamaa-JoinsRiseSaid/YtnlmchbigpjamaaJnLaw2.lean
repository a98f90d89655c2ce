/- What rising lists tell together, in plain Lean. -/
import Derived.Test.YtnlmchbigpjamaaJnLaw
set_option linter.unusedSimpArgs false
set_option linter.unusedVariables false
namespace Herb.Jn
open Go Go.RowKit Herb
def srt (l : List Ft) : Prop := l.Pairwise fun f g => cmpFt f g ≤ 0
def stc (l : List Ft) : Prop := l.Pairwise fun f g => cmpFt f g < 0
theorem cmpFt_trans {f g h : Ft} (a : cmpFt f g ≤ 0) (b : cmpFt g h ≤ 0) : cmpFt f h ≤ 0 := by
  have := cmpFt_R3 f g h
  unfold R3 at this
  omega
theorem cmpFt_lt_of {f g h : Ft} (a : cmpFt f g ≤ 0) (b : cmpFt g h < 0) : cmpFt f h < 0 := by
  have := cmpFt_R3 f g h
  unfold R3 at this
  omega
/-- Rising, as the program asks it. -/
def Ris (l : List Ft) : Prop := ∀ i f g, l[i]? = some f → l[i + 1]? = some g → cmpFt f g ≤ 0
theorem Ris.srt : ∀ {l : List Ft}, Ris l → Herb.Jn.srt l
  | [], _ => List.Pairwise.nil
  | [x], _ => List.pairwise_singleton _ _
  | x :: y :: l, h => by
    have ih : Herb.Jn.srt (y :: l) := Ris.srt (fun i f g hf hg => h (i + 1) f g (by simpa using hf) (by simpa using hg))
    have hxy := h 0 x y rfl rfl
    refine List.pairwise_cons.2 ⟨fun z hz => ?_, ih⟩
    rcases List.mem_cons.1 hz with rfl | hz
    · exact hxy
    · exact cmpFt_trans hxy ((List.pairwise_cons.1 ih).1 z hz)
theorem srt.ris {l : List Ft} (h : srt l) : Ris l := fun i f g hf hg => by
  obtain ⟨h1, rfl⟩ := List.getElem?_eq_some_iff.1 hf
  obtain ⟨h2, rfl⟩ := List.getElem?_eq_some_iff.1 hg
  exact List.pairwise_iff_getElem.1 h i (i + 1) h1 h2 (by omega)
theorem Merge.mem {R : List (List Ft)} {out : List Ft} (h : Merge R out) : ∀ f, f ∈ out ↔ ∃ x ∈ R, f ∈ x := by
  induction h with
  | done R h =>
    intro f
    refine ⟨fun h => (by cases h), fun ⟨x, hx, hf⟩ => ?_⟩
    rw [h x hx] at hf
    cases hf
  | step R i f t out hi hm _ ih =>
    intro g
    obtain ⟨hl, he⟩ := List.getElem?_eq_some_iff.1 hi
    rw [List.mem_cons, ih]
    refine ⟨fun h => ?_, fun ⟨x, hx, hg⟩ => ?_⟩
    · rcases h with rfl | ⟨x, hx, hg⟩
      · exact ⟨_, List.mem_of_getElem? hi, by simp⟩
      · rcases List.mem_or_eq_of_mem_set hx with h | rfl
        · exact ⟨x, h, hg⟩
        · exact ⟨_, List.mem_of_getElem? hi, by simp [hg]⟩
    · obtain ⟨k, hk, rfl⟩ := List.mem_iff_getElem.1 hx
      by_cases e : i = k
      · subst e
        rw [he] at hg
        rcases List.mem_cons.1 hg with h | h
        · exact .inl h
        · exact .inr ⟨t, List.mem_of_getElem? (i := i) (by rw [List.getElem?_set, if_pos rfl, if_pos hl]), h⟩
      · exact .inr ⟨R[k], List.mem_of_getElem? (i := k) (by rw [List.getElem?_set, if_neg e, List.getElem?_eq_getElem hk]), hg⟩
theorem Merge.srt {R : List (List Ft)} {out : List Ft} (h : Merge R out) : (∀ x ∈ R, Herb.Jn.srt x) → Herb.Jn.srt out := by
  induction h with
  | done => exact fun _ => List.Pairwise.nil
  | step R i f t out hi hm hM ih =>
    intro hs
    have hft := hs _ (List.mem_of_getElem? hi)
    have hs' : ∀ x ∈ R.set i t, Herb.Jn.srt x := fun x hx => by
      rcases List.mem_or_eq_of_mem_set hx with h | rfl
      · exact hs x h
      · exact (List.pairwise_cons.1 hft).2
    refine List.pairwise_cons.2 ⟨fun g hg => ?_, ih hs'⟩
    obtain ⟨x, hx, hgx⟩ := (hM.mem g).1 hg
    rcases List.mem_or_eq_of_mem_set hx with h | rfl
    · obtain ⟨k, hk, rfl⟩ := List.mem_iff_getElem.1 h
      obtain ⟨a, u, e⟩ := List.exists_cons_of_ne_nil (List.ne_nil_of_mem hgx)
      have h1 := hm k a u (by rw [List.getElem?_eq_getElem hk, e])
      have h2 : cmpFt f a ≤ 0 := by unfold leP at h1; omega
      rw [e] at hgx
      rcases List.mem_cons.1 hgx with rfl | h3
      · exact h2
      · have h4 := hs _ h
        rw [e] at h4
        exact cmpFt_trans h2 ((List.pairwise_cons.1 h4).1 g h3)
    · exact (List.pairwise_cons.1 hft).1 g hgx
theorem srt.dd {l : List Ft} (h : srt l) : srt (Herb.Jn.dd l) := h.sublist (dd_sub l)
/-- Rising, none next to another like it, and facts in the same place are the same: strictly so. -/
theorem stc_of : ∀ {l : List Ft}, srt l → (∀ k, ∀ f g, l[k]? = some f → l[k + 1]? = some g → cmpFt f g ≠ 0) → stc l
  | [], _, _ => List.Pairwise.nil
  | [x], _, _ => List.pairwise_singleton _ _
  | x :: y :: l, h, ha => by
    have h1 := List.pairwise_cons.1 h
    have ih : stc (y :: l) := stc_of h1.2 (fun k f g hf hg => ha (k + 1) f g (by simpa using hf) (by simpa using hg))
    have hxy : cmpFt x y < 0 := by
      have a := h1.1 y (by simp)
      have b := ha 0 x y rfl rfl
      omega
    refine List.pairwise_cons.2 ⟨fun z hz => ?_, ih⟩
    rcases List.mem_cons.1 hz with rfl | hz
    · exact hxy
    · have := (List.pairwise_cons.1 ih).1 z hz
      exact cmpFt_lt_of (by omega) this
theorem stc.inj {l : List Ft} (h : stc l) {f g : Ft} (hf : f ∈ l) (hg : g ∈ l) (e : cmpFt f g = 0) : f = g := by
  obtain ⟨i, hi, rfl⟩ := List.mem_iff_getElem.1 hf
  obtain ⟨j, hj, rfl⟩ := List.mem_iff_getElem.1 hg
  rcases Nat.lt_trichotomy i j with h1 | h1 | h1
  · have := List.pairwise_iff_getElem.1 h i j hi hj h1
    omega
  · subst h1; rfl
  · have h2 := List.pairwise_iff_getElem.1 h j i hj hi h1
    have := cmpFt_flip l[i] l[j]
    omega
theorem stc.uniq : ∀ {a b : List Ft}, stc a → stc b → (∀ f, f ∈ a ↔ f ∈ b) → a = b
  | [], [], _, _, _ => rfl
  | [], y :: b, _, _, h => by have := (h y).2 (by simp); cases this
  | x :: a, [], _, _, h => by have := (h x).1 (by simp); cases this
  | x :: a, y :: b, ha, hb, h => by
    have h1 := List.pairwise_cons.1 ha
    have h2 := List.pairwise_cons.1 hb
    have hxy : x = y := by
      rcases List.mem_cons.1 ((h x).1 (by simp)) with e | e
      · exact e
      · rcases List.mem_cons.1 ((h y).2 (by simp)) with e' | e'
        · exact e'.symm
        · have := h2.1 x e
          have := h1.1 y e'
          have := cmpFt_flip x y
          omega
    subst hxy
    rw [stc.uniq h1.2 h2.2 (fun f => by
      refine ⟨fun hf => ?_, fun hf => ?_⟩
      · rcases List.mem_cons.1 ((h f).1 (by simp [hf])) with e | e
        · subst e
          have := h1.1 f hf
          rw [cmpFt_self] at this
          omega
        · exact e
      · rcases List.mem_cons.1 ((h f).2 (by simp [hf])) with e | e
        · subst e
          have := h2.1 f hf
          rw [cmpFt_self] at this
          omega
        · exact e)]
/-- What rising lists tell, each fact once, is the one strictly rising list of their facts. -/
theorem dd_stc {l all : List Ft} (h : srt l) (ha : stc all) (hm : ∀ f ∈ l, f ∈ all) : stc (dd l) :=
  stc_of h.dd (fun k f g hf hg e => dd_apart l k f g hf hg (ha.inj (hm f ((dd_mem l f).1 (List.mem_of_getElem? hf))) (hm g ((dd_mem l g).1 (List.mem_of_getElem? hg))) e))
theorem merge_all {R : List (List Ft)} {out all : List Ft} (hM : Merge R out) (hs : ∀ x ∈ R, srt x) (ha : stc all) (hm : ∀ f, (∃ x ∈ R, f ∈ x) ↔ f ∈ all) : dd out = all :=
  (dd_stc (hM.srt hs) ha (fun f hf => (hm f).1 ((hM.mem f).1 hf))).uniq ha (fun f => by rw [dd_mem, hM.mem, hm])
end Herb.Jn
