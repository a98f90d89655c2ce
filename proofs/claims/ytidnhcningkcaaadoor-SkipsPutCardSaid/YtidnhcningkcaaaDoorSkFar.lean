/- A list none of whose keys lies in a given block. -/
import Derived.Test.YtidnhcningkcaaaDoorSkBoth
set_option linter.unusedSimpArgs false
set_option linter.unusedVariables false
namespace Go.Proofs.YtidnhcningkcaaaDoor
open Go Go.RowKit Herb
/-- No key lies in block T. -/
def FarN (N : List Nd) (T : Nat) : Prop := ∀ d ∈ N, d.key = [] ∨ ∀ a, d.A = some a → a.block ≠ T
def SkF (w : World) (base p g : Nat) (M : List (List UInt8 × Int)) (T : Nat) : Prop := ∃ N L h cap, Inv N L h ∧ SkAt w base p g cap N ∧ toldL N L = M ∧ FarN N T
section
variable {w w' : World} {base p g : Nat} {M : List (List UInt8 × Int)} {T : Nat}
theorem SkF.sk (h : SkF w base p g M T) : SkL w base p g M := by
  obtain ⟨N, L, hh, cap, I, hS, ht, _⟩ := h
  exact ⟨N, L, hh, cap, I, hS, ht⟩
theorem SkL.far (h : SkL w base p g M) (hT : w.heap.size ≤ T) : SkF w base p g M T := by
  obtain ⟨N, L, hh, cap, I, hS, ht⟩ := h
  refine ⟨N, L, hh, cap, I, hS, ht, fun d hd => ?_⟩
  rcases (hS.keys d hd).1 with hk | ⟨g', cs, fr, ha, hg, _⟩
  · exact .inl hk
  · refine .inr (fun a e => ?_)
    rw [ha] at e
    cases e
    have := (Array.getElem?_eq_some_iff.1 hg).1
    show g' ≠ T
    omega
theorem SkF.below (h : SkF w base p g M T) (hb : Below w.heap.size w w') : SkF w' base p g M T := by
  obtain ⟨N, L, hh, cap, I, hS, ht, hf⟩ := h
  exact ⟨N, L, hh, cap, I, hS.below hb, ht, hf⟩
theorem SkF.keep {S : Nat → Prop} (h : SkF w base p g M T) (hk : KeepBut S w w') (hp : ¬ S p) (hg : ¬ S g) (hs : ∀ k cs fr, w.heap[k]? = some (.cells cs 5 fr) → k ≠ T → ¬ S k) : SkF w' base p g M T := by
  obtain ⟨N, L, hh, cap, I, hS, ht, hf⟩ := h
  refine ⟨N, L, hh, cap, I, ⟨(hk.block p hS.lt.1 hp).trans hS.box, ⟨hS.row.1, ?_⟩, fun d hd => ⟨?_, (hS.keys d hd).2⟩, hS.pb⟩, ht, hf⟩
  · rcases hS.row.2 with ⟨h1, _⟩ | ⟨g', cap', cur, hv, hb, hgg, hc⟩
    · cases h1
    · cases hv
      exact .inr ⟨g, cap, cur, rfl, hb, (hk.block g hS.lt.2 hg).trans hgg, hc⟩
  · rcases (hS.keys d hd).1 with h1 | ⟨g', cs, fr, ha, hgk, hc⟩
    · exact .inl h1
    · rcases hf d hd with h2 | h2
      · exact .inl h2
      · exact .inr ⟨g', cs, fr, ha, (hk.block g' (Array.getElem?_eq_some_iff.1 hgk).1 (hs g' cs fr hgk (h2 _ ha))).trans hgk, hc⟩
theorem SkF.keepR {r c : Nat} {A : Option Addr} {L : List (List UInt8 × Int)} (hs : SkF w base p g M T) (h : RefK w base r A c L) (hk : KeepBut (fun k => k = r) w w') : SkF w' base p g M T := by
  obtain ⟨⟨c1, f1, t1⟩, ⟨c2, f2, t2⟩⟩ := hs.sk.types
  have hb : w.heap[r]? = _ := h.box
  exact hs.keep hk (fun e => blk_neT t1 (e ▸ hb) (by decide) rfl) (fun e => blk_neT t2 (e ▸ hb) (by decide) rfl) (fun k cs fr hk1 _ e => blk_neT hk1 (e ▸ hb) (by decide) rfl)
/-- A store into the block itself. -/
theorem SkF.store (hs : SkF w base p g M T) {cs : Array Value} (hT : Blk w T 5 cs) (i : Nat) (u : Value) : SkF (w.setCell ⟨T, i, none⟩ u) base p g M T := by
  have hn := hs.sk.bytes hT
  exact hs.keep (KeepBut.set_at w T i u) (fun e => hn (.inl e.symm)) (fun e => hn (.inr e.symm)) (fun k cs fr _ hk e => hk e)
end
theorem getD_far {N : List Nd} {T : Nat} (h : FarN N T) (i : Nat) : (N.getD i Nd.zero).key = [] ∨ ∀ a, (N.getD i Nd.zero).A = some a → a.block ≠ T := by
  by_cases hi : i < N.length
  · exact h _ (getD_mem hi)
  · rw [List.getD_eq_getElem?_getD, List.getElem?_eq_none (by omega)]
    exact .inl rfl
theorem FarN.setNx {N : List Nd} {T : Nat} (h : FarN N T) (i f v : Nat) : FarN (Herb.setNx N i f v) T := by
  intro d hd
  unfold Herb.setNx at hd
  rcases List.mem_or_eq_of_mem_set hd with h1 | rfl
  · exact h d h1
  · exact getD_far h i
theorem FarN.stepN {N : List Nd} {T : Nat} (h : FarN N T) (t : Nat → Nat) (q : Nat) : ∀ k, FarN (Herb.stepN N t q k) T
  | 0 => h
  | k + 1 => FarN.setNx (FarN.stepN h t q k) _ _ _
theorem FarN.insN {N : List Nd} {T : Nat} (h : FarN N T) (t : Nat → Nat) (H : Nat) (d : Nd) (hd : ∀ a, d.A = some a → a.block ≠ T) : FarN (Herb.insN N t H d) T := by
  intro x hx
  unfold Herb.insN at hx
  rcases List.mem_append.1 hx with h1 | h1
  · exact FarN.stepN h t _ H x h1
  · obtain rfl := List.mem_singleton.1 h1
    exact .inr hd
/-- Put at whatever height: keys stay far from the block. -/
theorem sputF_any (w : World) (base p g : Nat) (M : List (List UInt8 × Int)) (T : Nat) (hS : SkF w base p g M T) (hT : T < w.heap.size) (hbase : base ≤ w.heap.size) (hM : M.length ≤ 100000) (K : List UInt8) (A : Option Addr) (n c : Nat) (hn : K.length = n) (hn2 : n ≤ 140737488355328) (hb : Bs w A K) (z H : Int) :
    Calls Tryd.prog 8 #[.pointer (some ⟨p, 0, none⟩), .slice A n c, .int .i64 z, .int .i64 H] w fun e w' => ∃ g', e = .returned (.int .i64 (stepK M K z H).1) ∧ SkF w' base p g' (stepK M K z H).2 T ∧ KeepBut (fun k => k = p ∨ k = g) w w' ∧ (g' = g ∨ w.heap.size ≤ g') := by
  by_cases h1 : H < 1 ∨ 8 < H
  · unfold stepK
    rw [if_pos h1]
    refine (putL_bad w base p g M hS.sk A n c z H h1).mono ?_
    rintro _ _ ⟨rfl, rfl⟩
    exact ⟨g, rfl, hS, KeepBut.refl _, .inl rfl⟩
  · rcases hh : hasM M K with _ | _
    · have e : stepK M K z H = (0, insM M K z) := by unfold stepK; rw [if_neg h1, hh, if_neg (by simp)]
      rw [e]
      obtain ⟨N, L, h, cap, I, hA, ht, hf⟩ := hS
      have hl := told_len I
      rw [ht] at hl
      obtain ⟨m, rfl⟩ : ∃ m : Nat, H = (m : Int) := ⟨H.toNat, by omega⟩
      have hno : hasM (toldL N L) K = false := by rw [ht]; exact hh
      refine (put_new w base p g cap N L h I hA _ hl (by omega) K A n c hn hn2 hb z m (by omega) (by omega) hno).mono ?_
      rintro e w' ⟨g', cap', A', c', rfl, hS', hk, hg, hA'⟩
      have hI := I.ins K m (by omega) (by omega) ⟨K, z, A', c', []⟩ rfl (fun i hi e => by
        rw [hasM_head I] at hno
        have hno' := hno
        have h1 := I.rest_not K hi
        rcases hr : restL N L K with _ | ⟨b, R⟩
        · rw [hr] at hi; cases hi
        · rw [hr] at hno' hi
          simp only [List.head?_cons, Option.map_some, Option.getD_some] at hno'
          rcases List.mem_cons.1 hi with rfl | hi'
          · have e' : Herb.keyOf N i = K := e
            rw [e'] at hno'
            simp at hno'
          · have hri : (aheadL N L K ++ restL N L K).Pairwise (fun i j => less (Herb.keyOf N i) (Herb.keyOf N j) = true) := by rw [ahead_rest]; exact I.rise
            have h2 := (List.pairwise_append.1 hri).2.1
            rw [hr] at h2
            have h3 := (List.pairwise_cons.1 h2).1 i hi'
            have e' : Herb.keyOf N i = K := e
            rw [e', I.rest_not K (by rw [hr]; simp)] at h3
            cases h3)
      have htl := toldL_ins I K m ⟨K, z, A', c', []⟩ rfl
      rw [ht] at htl
      exact ⟨g', rfl, ⟨_, _, _, cap', hI, hS', htl, hf.insN _ _ _ (fun a ha => by have := hA' a ha; omega)⟩, hk, hg⟩
    · have e : stepK M K z H = (8, M) := by unfold stepK; rw [if_neg h1, hh, if_pos rfl]
      rw [e]
      refine (putL_there w base p g M hS.sk hM K A n c hn hb z H (by omega) (by omega) hh).mono ?_
      rintro _ w' ⟨rfl, h2⟩
      exact ⟨g, rfl, hS.below h2, KeepBut.of_below h2, .inl rfl⟩
end Go.Proofs.YtidnhcningkcaaaDoor
