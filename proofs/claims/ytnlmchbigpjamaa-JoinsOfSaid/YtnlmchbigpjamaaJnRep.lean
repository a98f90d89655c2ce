/- What a heap of lists stands for. -/
import Derived.Test.YtnlmchbigpjamaaJnTake
set_option linter.unusedSimpArgs false
set_option linter.unusedVariables false
namespace Go.Proofs.Ytnlmchbigpjamaa
open Go Go.RowKit Herb Herb.Jn
/-- The heap's elements are the first k lists that are not empty. -/
structure Rep (l : List En) (R : List (List Ft)) (k : Nat) : Prop where
  nodup : (l.map En.pl).Nodup
  mem : ∀ e ∈ l, e.pl < k ∧ R[e.pl]? = some e.fs ∧ e.fs ≠ []
  all : ∀ i f t, i < k → R[i]? = some (f :: t) → ∃ e ∈ l, e.pl = i
theorem Rep.zero (R : List (List Ft)) : Rep [] R 0 := ⟨List.nodup_nil, fun e he => (by cases he), fun i f t h => absurd h (by omega)⟩
theorem Rep.perm {l l' : List En} {R : List (List Ft)} {k : Nat} (h : Rep l R k) (hp : l'.Perm l) : Rep l' R k :=
  ⟨(hp.map En.pl).nodup_iff.2 h.nodup, fun e he => h.mem e (hp.subset he), fun i f t hi hr => by
    obtain ⟨e, he, h2⟩ := h.all i f t hi hr
    exact ⟨e, hp.symm.subset he, h2⟩⟩
theorem Rep.skip {l : List En} {R : List (List Ft)} {k : Nat} (h : Rep l R k) (hr : ∀ f t, R[k]? ≠ some (f :: t)) : Rep l R (k + 1) :=
  ⟨h.nodup, fun e he => ⟨by have := (h.mem e he).1; omega, (h.mem e he).2⟩, fun i f t hi hri => by
    by_cases e : i = k
    · subst e; exact absurd hri (hr f t)
    · exact h.all i f t (by omega) hri⟩
theorem Rep.push {l : List En} {R : List (List Ft)} {k : Nat} (h : Rep l R k) (e : En) (hp : e.pl = k) (hr : R[k]? = some e.fs) (hn : e.fs ≠ []) : Rep (l ++ [e]) R (k + 1) := by
  refine ⟨?_, fun x hx => ?_, fun i f t hi hri => ?_⟩
  · rw [List.map_append, List.nodup_append]
    refine ⟨h.nodup, by simp, fun a ha b hb => ?_⟩
    obtain ⟨x, hx, rfl⟩ := List.mem_map.1 ha
    simp only [List.map_cons, List.map_nil, List.mem_singleton] at hb
    have := (h.mem x hx).1
    omega
  · rcases List.mem_append.1 hx with hx | hx
    · exact ⟨by have := (h.mem x hx).1; omega, (h.mem x hx).2⟩
    · obtain rfl := List.mem_singleton.1 hx
      exact ⟨by omega, by rw [hp]; exact hr, hn⟩
  · by_cases e' : i = k
    · exact ⟨e, by simp, by omega⟩
    · obtain ⟨x, hx, h2⟩ := h.all i f t (by omega) hri
      exact ⟨x, by simp [hx], h2⟩
theorem leP_of_leE {a b : En} {f g : Ft} {t u : List Ft} (h : leE a b) (ha : a.fs = f :: t) (hb : b.fs = g :: u) : leP f a.pl g b.pl := by
  unfold leE cmpE at h
  have e1 : a.hd = f := by unfold En.hd; rw [ha]; rfl
  have e2 : b.hd = g := by unfold En.hd; rw [hb]; rfl
  rw [e1, e2] at h
  simp only [orL_cons] at h
  unfold orI orL cmpI at h
  unfold leP
  split at h
  · rename_i hz
    refine .inr ⟨hz, ?_⟩
    split at h
    · split at h <;> omega
    · split at h <;> omega
  · rename_i hz
    exact .inl (by omega)
/-- The first one of a heap is what all lists tell next. -/
theorem Rep.next {l : List En} {R : List (List Ft)} {N : Nat} (h : Rep l R N) (hN : R.length = N) (hz : IsHeap l l.length) (h0 : 0 < l.length) {out : List Ft} (hm : Merge R out) :
    ∃ out', out = (at_ l 0).hd :: out' ∧ Merge (R.set (at_ l 0).pl (at_ l 0).fs.tail) out' := by
  have h0m : at_ l 0 ∈ l := by rw [at_get h0]; exact List.getElem_mem _
  obtain ⟨h1, h2, h3⟩ := h.mem _ h0m
  obtain ⟨f, t, hft⟩ := List.exists_cons_of_ne_nil h3
  have hmin : ∀ k g u, R[k]? = some (g :: u) → leP f (at_ l 0).pl g k := fun k g u hk => by
    obtain ⟨e, he, hek⟩ := h.all k g u (by have := (List.getElem?_eq_some_iff.1 hk).1; omega) hk
    obtain ⟨i, hi, hie⟩ := List.mem_iff_getElem.1 he
    have hr := hz.root i hi
    rw [at_get hi, hie] at hr
    have hfe : e.fs = g :: u := by
      have := (h.mem e he).2.1
      rw [hek, hk] at this
      injection this with this
      exact this.symm
    have := leP_of_leE hr hft hfe
    rwa [hek] at this
  have hhd : (at_ l 0).hd = f := by unfold En.hd; rw [hft]; rfl
  rw [hft] at h2
  obtain ⟨out', ho⟩ := merge_total (R.set (at_ l 0).pl t)
  have := hm.det (Merge.step R _ f t out' h2 hmin ho)
  rw [hhd, hft]
  exact ⟨out', this, ho⟩
theorem Rep.take {l l' : List En} {R : List (List Ft)} {N : Nat} (h : Rep l R N) (h0 : 0 < l.length) (hp : l'.Perm (rest l)) : Rep l' (R.set (at_ l 0).pl (at_ l 0).fs.tail) N := by
  refine Rep.perm ?_ hp
  have hl : l = at_ l 0 :: l.drop 1 := by
    cases l with
    | nil => simp at h0
    | cons x l => simp [at_]
  obtain ⟨a, ha⟩ : ∃ a, at_ l 0 = a := ⟨_, rfl⟩
  obtain ⟨l1, hl1⟩ : ∃ l1, l.drop 1 = l1 := ⟨_, rfl⟩
  unfold rest
  rw [ha, hl1] at hl ⊢
  subst hl
  have hnd := h.nodup
  rw [List.map_cons, List.nodup_cons] at hnd
  obtain ⟨h1, h2, h3⟩ := h.mem a (by simp)
  have hlen : a.pl < R.length := (List.getElem?_eq_some_iff.1 h2).1
  have other : ∀ e ∈ l1, e.pl < N ∧ (R.set a.pl a.fs.tail)[e.pl]? = some e.fs ∧ e.fs ≠ [] := fun e he => by
    have hm := h.mem e (by simp [he])
    have hne : a.pl ≠ e.pl := fun eq => hnd.1 (List.mem_map.2 ⟨e, he, eq.symm⟩)
    rw [List.getElem?_set, if_neg hne]
    exact hm
  have hall : ∀ i f t, i < N → i ≠ a.pl → (R.set a.pl a.fs.tail)[i]? = some (f :: t) → ∃ e ∈ l1, e.pl = i := fun i f t hi hne hr => by
    rw [List.getElem?_set, if_neg (fun e => hne e.symm)] at hr
    obtain ⟨e, he, hei⟩ := h.all i f t hi hr
    rcases List.mem_cons.1 he with rfl | he
    · exact absurd hei.symm hne
    · exact ⟨e, he, hei⟩
  by_cases ht : a.fs.tail = []
  · rw [if_pos ht]
    refine ⟨hnd.2, other, fun i f t hi hr => ?_⟩
    by_cases e : i = a.pl
    · subst e
      rw [List.getElem?_set, if_pos rfl, if_pos hlen, ht] at hr
      cases hr
    · exact hall i f t hi e hr
  · rw [if_neg ht]
    refine ⟨by rw [List.cons_append, List.nil_append, List.map_cons]; exact List.nodup_cons.2 hnd, fun e he => ?_, fun i f t hi hr => ?_⟩
    · rcases List.mem_cons.1 he with rfl | he
      · refine ⟨h1, ?_, ht⟩
        show (R.set a.pl a.fs.tail)[a.pl]? = some a.fs.tail
        rw [List.getElem?_set, if_pos rfl, if_pos hlen]
      · exact other e he
    · by_cases e : i = a.pl
      · exact ⟨adv a, by simp, e.symm⟩
      · obtain ⟨x, hx, h5⟩ := hall i f t hi e hr
        exact ⟨x, by simp [hx], h5⟩
/-- When the heap is empty nothing is left to tell. -/
theorem Rep.end_ {R : List (List Ft)} {N : Nat} (h : Rep [] R N) (hN : R.length = N) {out : List Ft} (hm : Merge R out) : out = [] := by
  cases hm with
  | done => rfl
  | step _ i f t out hi _ _ =>
    obtain ⟨e, he, _⟩ := h.all i f t (by have := (List.getElem?_eq_some_iff.1 hi).1; omega) hi
    cases he
theorem Rep.ne {l : List En} {R : List (List Ft)} {k : Nat} (h : Rep l R k) : ∀ i, i < l.length → (at_ l i).fs ≠ [] := fun i hi => by
  have hm : at_ l i ∈ l := by rw [at_get hi]; exact List.getElem_mem _
  exact (h.mem _ hm).2.2
/-- All facts that a heap bears lie in blocks from lo on, and below hi. -/
def Bd (l : List En) (lo hi : Nat) : Prop := ∀ e ∈ l, ∀ a, e.A = some a → lo ≤ a.block ∧ a.block < hi
theorem add_block (a : Addr) (k : Nat) : (a.add k).block = a.block := by
  unfold Addr.add
  split <;> rfl
theorem Bd.take {l l' : List En} {lo hi : Nat} (h : Bd l lo hi) (h0 : 0 < l.length) (hp : l'.Perm (rest l)) : Bd l' lo hi := fun e he a ha => by
  have hm := hp.subset he
  unfold rest at hm
  have h0m : at_ l 0 ∈ l := by rw [at_get h0]; exact List.getElem_mem _
  rcases List.mem_append.1 hm with hm | hm
  · split at hm
    · cases hm
    · obtain rfl := List.mem_singleton.1 hm
      have ha' : cutZ 6 (at_ l 0).A (at_ l 0).c 1 = some a := ha
      unfold cutZ at ha'
      split at ha'
      · exact h _ h0m a ha'
      · obtain ⟨a0, hA, rfl⟩ := Option.map_eq_some_iff.1 ha'
        rw [add_block]
        exact h _ h0m a0 hA
  · exact h e (List.mem_of_mem_drop hm) a ha
/-- A heap lies on where its own blocks do. -/
theorem HpAt.keepB {S : Nat → Prop} {w w' : World} {q g c lo hi : Nat} {l : List En} (h : HpAt w q g c l) (hk : KeepBut S w w') (hb : Bd l lo hi) (hq : ¬ S q) (hg : ¬ S g) (hs : ∀ k, lo ≤ k → k < hi → ¬ S k) : HpAt w' q g c l := by
  obtain ⟨cs, h1, h2, h3⟩ := h.row
  refine ⟨hk.blk h.box hq, ⟨cs, hk.blk h1 hg, h2, h3⟩, h.cap, fun e he => ⟨?_, (h.fts e he).2⟩⟩
  rcases (h.fts e he).1 with h4 | ⟨g', o, cs', fr, hA, hg', hc⟩
  · exact .inl h4
  · have := hb e he _ hA
    exact .inr ⟨g', o, cs', fr, hA, (hk.block g' (Array.getElem?_eq_some_iff.1 hg').1 (hs g' this.1 this.2)).trans hg', hc⟩
end Go.Proofs.Ytnlmchbigpjamaa
