/- The document's way to read a commit (guess, put again, compare) tells the same as a parser does. -/
import Derived.Test.YtccbldlnfaiphaaDoorOpLaw
set_option linter.unusedSimpArgs false
set_option linter.unusedVariables false
namespace Herb.Cm
open Herb
abbrev St := Option (List UInt8)
def gRead (st : St) : Nat × St := match st.bind rdN with | none => (0, none) | some (n, r) => (n, some r)
def gText (st : St) : ByteArray × St := match st.bind rdT with | none => (ByteArray.empty, none) | some (n, r) => (n, some r)
def gOne (st : St) : Nat × St := match st.bind rdB with | none => (0, none) | some (n, r) => (n, some r)
def guessC (st : St) : Ch × St :=
  let k := gText st
  let n := gRead k.2
  let ki := gOne n.2
  let v := if ki.1 = 0 then gText ki.2 else (ByteArray.empty, ki.2)
  (⟨k.1, n.1 % 4294967296, ki.1, v.1⟩, v.2)
def guessCs : Nat → St → List Ch
  | 0, _ => []
  | _ + 1, none => []
  | n + 1, some l => (guessC (some l)).1 :: guessCs n (guessC (some l)).2
def guess (l : List UInt8) : Nat × Rec :=
  let s := gRead (some l)
  let kind := gOne s.2
  let br := gText kind.2
  let ot := if two kind.1 = true then gText br.2 else (ByteArray.empty, br.2)
  let pl := if trim kind.1 = true then gRead ot.2 else (0, ot.2)
  let mn := if many kind.1 = true then gRead pl.2 else (0, pl.2)
  (s.1, ⟨kind.1, br.1, ot.1, pl.1, guessCs mn.1 mn.2⟩)
def refGet (l : List UInt8) : Option (Nat × Rec) :=
  if 65536 < l.length then none
  else if (guess l).1 ≠ 0 ∧ chk (guess l).2 = true ∧ (encOp (guess l).1 (guess l).2).length ≤ 65536 ∧ encOp (guess l).1 (guess l).2 = l then some (guess l) else none

theorem gRead_some {l r : List UInt8} {n : Nat} (h : rdN l = some (n, r)) : gRead (some l) = (n, some r) := by unfold gRead; simp [h]
theorem gText_some {l r : List UInt8} {s : ByteArray} (h : rdT l = some (s, r)) : gText (some l) = (s, some r) := by unfold gText; simp [h]
theorem gOne_some {l r : List UInt8} {n : Nat} (h : rdB l = some (n, r)) : gOne (some l) = (n, some r) := by unfold gOne; simp [h]
theorem gRead_lt (st : St) : (gRead st).1 < 18446744073709551616 := by
  unfold gRead
  rcases st with _ | l
  · simp
  · simp only [Option.bind_some]
    rcases h : rdN l with _ | ⟨n, r⟩
    · simp
    · exact (rdN_some h).2
theorem gOne_lt (st : St) : (gOne st).1 < 256 := by
  unfold gOne
  rcases st with _ | l
  · simp
  · simp only [Option.bind_some]
    rcases h : rdB l with _ | ⟨n, r⟩
    · simp
    · exact (rdB_some h).2
/-- What is left is no longer. -/
def Le (st st' : St) : Prop := ∀ r, st' = some r → ∃ l, st = some l ∧ r.length ≤ l.length
theorem Le.trans {a b c : St} (h : Le a b) (k : Le b c) : Le a c := fun r e => by
  obtain ⟨l, e1, h1⟩ := k r e
  obtain ⟨l', e2, h2⟩ := h l e1
  exact ⟨l', e2, by omega⟩
theorem gRead_le (st : St) : Le st (gRead st).2 := by
  intro r e
  unfold gRead at e
  rcases st with _ | l
  · cases e
  · simp only [Option.bind_some] at e
    rcases h : rdN l with _ | ⟨n, r'⟩
    · rw [h] at e; cases e
    · rw [h] at e; cases e; exact ⟨l, rfl, Nat.le_of_lt (rdN_len h)⟩
theorem gText_le (st : St) : ∀ r, (gText st).2 = some r → ∃ l, st = some l ∧ r.length < l.length := by
  intro r e
  unfold gText at e
  rcases st with _ | l
  · cases e
  · simp only [Option.bind_some] at e
    rcases h : rdT l with _ | ⟨n, r'⟩
    · rw [h] at e; cases e
    · rw [h] at e; cases e; exact ⟨l, rfl, rdT_len h⟩
theorem gOne_le (st : St) : Le st (gOne st).2 := by
  intro r e
  unfold gOne at e
  rcases st with _ | l
  · cases e
  · simp only [Option.bind_some] at e
    rcases h : rdB l with _ | ⟨n, r'⟩
    · rw [h] at e; cases e
    · rw [h] at e; cases e
      refine ⟨l, rfl, ?_⟩
      rw [(rdB_some h).1]
      simp
theorem guessC_lt (st : St) : ∀ r, (guessC st).2 = some r → ∃ l, st = some l ∧ r.length < l.length := by
  intro r e
  have h1 := gText_le st
  have h2 := gRead_le (gText st).2
  have h3 := gOne_le (gRead (gText st).2).2
  have h4 : Le (gOne (gRead (gText st).2).2).2 (guessC st).2 := by
    unfold guessC
    simp only
    split
    · intro r e
      obtain ⟨l, e1, h⟩ := gText_le _ r e
      exact ⟨l, e1, Nat.le_of_lt h⟩
    · exact fun r e => ⟨r, e, Nat.le_refl _⟩
  obtain ⟨l1, e1, g1⟩ := ((h2.trans h3).trans h4) r e
  obtain ⟨l, e2, g2⟩ := h1 l1 e1
  exact ⟨l, e2, by omega⟩
theorem guessC_fit (st : St) : ChFit (guessC st).1 := ⟨Nat.mod_lt _ (by omega), gOne_lt _⟩
theorem guessCs_fit : ∀ (n : Nat) (st : St), ∀ c ∈ guessCs n st, ChFit c
  | 0, _, c, h => by cases h
  | _ + 1, none, c, h => by cases h
  | n + 1, some l, c, h => by
    rcases List.mem_cons.1 h with rfl | h
    · exact guessC_fit _
    · exact guessCs_fit n _ c h
theorem guessCs_len : ∀ (n : Nat) (st : St), (guessCs n st).length ≤ match st with | none => 0 | some l => l.length + 1
  | 0, st => by simp [guessCs]
  | _ + 1, none => by simp [guessCs]
  | n + 1, some l => by
    have ih := guessCs_len n (guessC (some l)).2
    simp only [guessCs, List.length_cons]
    rcases h : (guessC (some l)).2 with _ | r
    · rw [h] at ih; simp only at ih; omega
    · rw [h] at ih
      obtain ⟨l', e, hl⟩ := guessC_lt _ r h
      cases e
      simp only at ih
      omega
theorem guess_fit (l : List UInt8) : (guess l).1 < 18446744073709551616 ∧ Fit (guess l).2 ∧ (guess l).2.cs.length ≤ l.length + 1 := by
  have h1 := gRead_le (some l)
  have h2 := h1.trans (gOne_le _)
  have h3 : Le (some l) (gText (gOne (gRead (some l)).2).2).2 := h2.trans fun r e => by
    obtain ⟨l, e1, h⟩ := gText_le _ r e
    exact ⟨l, e1, Nat.le_of_lt h⟩
  refine ⟨gRead_lt _, ⟨gOne_lt _, ?_, ?_⟩, ?_⟩
  · unfold guess
    simp only
    split
    · exact gRead_lt _
    · omega
  · exact guessCs_fit _ _
  · unfold guess
    simp only
    refine Nat.le_trans (guessCs_len _ _) ?_
    generalize hst : (if many (gOne (gRead (some l)).2).1 = true then _ else _ : Nat × St).2 = st
    have hle : Le (some l) st := by
      rw [← hst]
      have h4 : Le (some l) (if two (gOne (gRead (some l)).2).1 = true then gText (gText (gOne (gRead (some l)).2).2).2 else (ByteArray.empty, (gText (gOne (gRead (some l)).2).2).2) : ByteArray × St).2 := by
        split
        · exact h3.trans fun r e => by
            obtain ⟨l, e1, h⟩ := gText_le _ r e
            exact ⟨l, e1, Nat.le_of_lt h⟩
        · exact h3
      have h5 : Le (some l) (if trim (gOne (gRead (some l)).2).1 = true then gRead (if two (gOne (gRead (some l)).2).1 = true then gText (gText (gOne (gRead (some l)).2).2).2 else (ByteArray.empty, (gText (gOne (gRead (some l)).2).2).2) : ByteArray × St).2 else (0, (if two (gOne (gRead (some l)).2).1 = true then gText (gText (gOne (gRead (some l)).2).2).2 else (ByteArray.empty, (gText (gOne (gRead (some l)).2).2).2) : ByteArray × St).2) : Nat × St).2 := by
        split
        · exact h4.trans (gRead_le _)
        · exact h4
      split
      · exact h5.trans (gRead_le _)
      · exact h5
    rcases st with _ | r
    · simp
    · obtain ⟨l', e, h⟩ := hle r rfl
      cases e
      simp only
      omega
theorem guessC_some {l r : List UInt8} {c : Ch} (h : getC l = some (c, r)) : guessC (some l) = (c, some r) := by
  unfold getC at h
  rcases h1 : rdT l with _ | ⟨k, l1⟩
  · rw [h1] at h; cases h
  rw [h1] at h
  simp only [Option.bind_some] at h
  rcases h2 : rdN l1 with _ | ⟨n, l2⟩
  · rw [h2] at h; cases h
  rw [h2] at h
  simp only [Option.bind_some] at h
  by_cases hn : 4294967295 < n
  · rw [if_pos hn] at h; cases h
  rw [if_neg hn] at h
  rcases h3 : rdB l2 with _ | ⟨ki, l3⟩
  · rw [h3] at h; cases h
  rw [h3] at h
  simp only [Option.bind_some] at h
  unfold guessC
  rw [gText_some h1]
  simp only
  rw [gRead_some h2]
  simp only
  rw [gOne_some h3]
  simp only
  rw [Nat.mod_eq_of_lt (show n < 4294967296 by omega)]
  by_cases hk : ki = 0
  · rw [if_pos hk] at h ⊢
    rcases h4 : rdT l3 with _ | ⟨v, l4⟩
    · rw [h4] at h; cases h
    rw [h4] at h
    rw [gText_some h4]
    simp only [Option.bind_some] at h
    split at h
    · simp only [Option.some.injEq, Prod.mk.injEq] at h
      obtain ⟨rfl, rfl⟩ := h
      rfl
    · cases h
  · rw [if_neg hk] at h ⊢
    simp only [Option.bind_some] at h
    split at h
    · simp only [Option.some.injEq, Prod.mk.injEq] at h
      obtain ⟨rfl, rfl⟩ := h
      rfl
    · cases h
theorem guessCs_some : ∀ (n : Nat) (cs : List Ch) (l r : List UInt8), getCs n l = some (cs, r) → guessCs n (some l) = cs
  | 0, cs, l, r, h => by
    simp only [getCs, Option.some.injEq, Prod.mk.injEq] at h
    obtain ⟨rfl, rfl⟩ := h
    rfl
  | n + 1, cs, l, r, h => by
    unfold getCs at h
    rcases h1 : getC l with _ | ⟨c, l1⟩
    · rw [h1] at h; cases h
    rw [h1] at h
    simp only [Option.bind_some] at h
    rcases h2 : getCs n l1 with _ | ⟨cs', l2⟩
    · rw [h2] at h; cases h
    rw [h2] at h
    simp only [Option.bind_some, Option.some.injEq, Prod.mk.injEq] at h
    obtain ⟨rfl, rfl⟩ := h
    show (guessC (some l)).1 :: guessCs n (guessC (some l)).2 = _
    rw [guessC_some h1, guessCs_some n cs' l1 l2 h2]
theorem guess_some {l r : List UInt8} {s : Nat} {o : Rec} (h : parseR l = some (s, o, r)) : guess l = (s, o) := by
  unfold parseR at h
  rcases h1 : rdN l with _ | ⟨s', l1⟩
  · rw [h1] at h; cases h
  rw [h1] at h
  simp only [Option.bind_some] at h
  rcases h2 : rdB l1 with _ | ⟨kind, l2⟩
  · rw [h2] at h; cases h
  rw [h2] at h
  simp only [Option.bind_some] at h
  by_cases h3 : s' = 0 ∨ 4 < kind
  · rw [if_pos h3] at h; cases h
  rw [if_neg h3] at h
  rcases h4 : rdT l2 with _ | ⟨br, l3⟩
  · rw [h4] at h; cases h
  rw [h4] at h
  simp only [Option.bind_some] at h
  unfold guess
  rw [gRead_some h1]
  simp only
  rw [gOne_some h2]
  simp only
  rw [gText_some h4]
  simp only
  obtain ⟨ot, l4, h5, e5⟩ : ∃ ot l4, (if two kind = true then rdT l3 else some (ByteArray.empty, l3)) = some (ot, l4) ∧ (if two kind = true then gText (some l3) else (ByteArray.empty, some l3)) = (ot, some l4) := by
    by_cases e : two kind = true
    · rw [if_pos e] at h ⊢
      rcases h5 : rdT l3 with _ | ⟨ot, l4⟩
      · rw [h5] at h; cases h
      · exact ⟨ot, l4, rfl, by rw [if_pos e, gText_some h5]⟩
    · exact ⟨ByteArray.empty, l3, by rw [if_neg e], by rw [if_neg e]⟩
  rw [h5] at h
  rw [e5]
  simp only [Option.bind_some] at h ⊢
  obtain ⟨pl, l5, h6, e6⟩ : ∃ pl l5, (if trim kind = true then rdN l4 else some (0, l4)) = some (pl, l5) ∧ (if trim kind = true then gRead (some l4) else (0, some l4)) = (pl, some l5) := by
    by_cases e : trim kind = true
    · rw [if_pos e] at h ⊢
      rcases h6 : rdN l4 with _ | ⟨pl, l5⟩
      · rw [h6] at h; cases h
      · exact ⟨pl, l5, rfl, by rw [if_pos e, gRead_some h6]⟩
    · exact ⟨0, l4, by rw [if_neg e], by rw [if_neg e]⟩
  rw [h6] at h
  rw [e6]
  simp only [Option.bind_some] at h ⊢
  by_cases e : many kind = true
  · rw [if_pos e] at h ⊢
    rcases h7 : rdN l5 with _ | ⟨n, l6⟩
    · rw [h7] at h; cases h
    rw [h7] at h
    rw [gRead_some h7]
    simp only [Option.bind_some] at h ⊢
    rcases h8 : getCs n l6 with _ | ⟨cs, l7⟩
    · rw [h8] at h; cases h
    rw [h8] at h
    rw [guessCs_some _ _ _ _ h8]
    simp only [Option.bind_some, Option.some.injEq, Prod.mk.injEq] at h
    obtain ⟨rfl, rfl, rfl⟩ := h
    rfl
  · rw [if_neg e] at h ⊢
    simp only [Option.bind_some, Option.some.injEq, Prod.mk.injEq] at h
    obtain ⟨rfl, rfl, rfl⟩ := h
    rfl
theorem refGet_parse (l : List UInt8) : refGet l = parse l := by
  unfold refGet
  by_cases hb : 65536 < l.length
  · rw [if_pos hb]
    unfold parse
    rw [if_pos hb]
  rw [if_neg hb]
  obtain ⟨f1, f2, f3⟩ := guess_fit l
  by_cases h : (guess l).1 ≠ 0 ∧ chk (guess l).2 = true ∧ (encOp (guess l).1 (guess l).2).length ≤ 65536 ∧ encOp (guess l).1 (guess l).2 = l
  · rw [if_pos h]
    have := parse_enc h.2.1 f2 h.1 f1 (by omega) h.2.2.1
    rw [h.2.2.2] at this
    exact this.symm
  · rw [if_neg h]
    rcases hp : parse l with _ | ⟨s, o⟩
    · rfl
    · exfalso
      obtain ⟨e, hc, h0, hs, hf, hl, hlen⟩ := parse_some hp
      have hr : parseR l = some (s, o, []) := by
        have := parseR_enc hc hf h0 hs hl []
        rwa [List.append_nil, ← e] at this
      rw [guess_some hr] at h
      exact h ⟨h0, hc, by rw [← e]; omega, e.symm⟩
end Herb.Cm
