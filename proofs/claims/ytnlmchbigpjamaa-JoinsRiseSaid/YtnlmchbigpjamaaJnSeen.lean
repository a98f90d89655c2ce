/- Which facts a map holds, and with which number. -/
import Derived.Test.YtnlmchbigpjamaaJnKey
import Derived.Maps.Views
import Derived.Maps.Ext
import Derived.Maps.RangeWalk
import Derived.Maps.OwnOps
set_option linter.unusedSimpArgs false
set_option linter.unusedVariables false
namespace Go.Proofs.Ytnlmchbigpjamaa
open Go Go.RowKit Go.Shelf Herb Herb.Jn Go.Maps
abbrev KOf (f : Ft) (kl : Lit) : Prop := keyOf Try.prog 44 f.val = some kl
theorem KOf.inj {f g : Ft} {kl : Lit} (h : KOf f kl) (k : KOf g kl) : f = g := Ft.val_inj (ftKeyed.inj h k)
open Classical in
/-- The map holds the facts of L, with 1, and those of M with 2. -/
structure Mp (D : DataW Unit) (L M : List Ft) : Prop where
  isMap : IsMap D
  at_ : ∀ f kl, KOf f kl → D.atKey kl (.lit (.int .i64 0)) = .lit (.int .i64 (if f ∈ M then 2 else if f ∈ L then 1 else 0))
  dom : ∀ kl, Maps.has D kl = true → ∃ f, f ∈ L ∧ KOf f kl
theorem Mp.start : Mp (.map []) [] [] := ⟨isMap_empty, fun f kl h => by simp [DataW.atKey], fun kl h => by cases h⟩
theorem Mp.one {D : DataW Unit} {L : List Ft} {f : Ft} {kl : Lit} (h : Mp D L []) (hk : KOf f kl) : Mp (D.put kl (.lit (.int .i64 1))) (L ++ [f]) [] := by
  refine ⟨h.isMap.put _ _, fun g kg hg => ?_, fun kg hg => ?_⟩
  · by_cases e : kg = kl
    · subst e
      rw [atKey_put_same h.isMap (ftKeyed.key hk)]
      obtain rfl := hg.inj hk
      simp
    · rw [atKey_put_other e, h.at_ g kg hg]
      have hgf : g ≠ f := fun e' => e (by subst e'; exact Option.some.inj ((Eq.symm hg).trans hk))
      simp [hgf]
  · by_cases e : kg = kl
    · subst e
      exact ⟨f, by simp, hk⟩
    · rw [has_put_other e] at hg
      obtain ⟨g, h1, h2⟩ := h.dom kg hg
      exact ⟨g, by simp [h1], h2⟩
theorem Mp.two {D : DataW Unit} {L M : List Ft} {f : Ft} {kl : Lit} (h : Mp D L M) (hk : KOf f kl) (hf : f ∈ L) : Mp (D.put kl (.lit (.int .i64 2))) L (M ++ [f]) := by
  refine ⟨h.isMap.put _ _, fun g kg hg => ?_, fun kg hg => ?_⟩
  · by_cases e : kg = kl
    · subst e
      rw [atKey_put_same h.isMap (ftKeyed.key hk)]
      obtain rfl := hg.inj hk
      simp
    · rw [atKey_put_other e, h.at_ g kg hg]
      have hgf : g ≠ f := fun e' => e (by subst e'; exact Option.some.inj ((Eq.symm hg).trans hk))
      simp [hgf]
  · by_cases e : kg = kl
    · subst e
      exact ⟨f, hf, hk⟩
    · rw [has_put_other e] at hg
      exact h.dom kg hg
theorem ownsMap_keep {S : Nat → Prop} {w w' : World} {k : TypeId} {R : Value → Option (DataW Unit × List MemPlace)} {b n : Nat} {D : DataW Unit} (h : w.ownsMap Try.prog k R b n D) (hk : KeepBut S w w') (hs : ¬ S b) : w'.ownsMap Try.prog k R b n D := by
  have hl := h.lt
  obtain ⟨es, clock, hb, rest⟩ := h
  exact ⟨es, clock, (hk.block b hl hs).trans hb, rest⟩
theorem ownsMap_below {B : Nat} {w w' : World} {k : TypeId} {R : Value → Option (DataW Unit × List MemPlace)} {b n : Nat} {D : DataW Unit} (h : w.ownsMap Try.prog k R b n D) (hk : Below B w w') (hs : b < B) : w'.ownsMap Try.prog k R b n D := by
  obtain ⟨es, clock, hb, rest⟩ := h
  exact ⟨es, clock, (hk.block b hs).trans hb, rest⟩
end Go.Proofs.Ytnlmchbigpjamaa
