/- Commits in bytes, in plain Lean: no program in sight. What is put is got, whatever stands behind; of what is got the same bytes are put. -/
import Derived.Test.YtccbldlnfaiphaaDoorVarLaw
set_option linter.unusedSimpArgs false
set_option linter.unusedVariables false
namespace Herb.Cm
open Herb

structure Ch where
  k : ByteArray
  va : Nat
  ki : Nat
  v : ByteArray
structure Rec where
  kind : Nat
  br : ByteArray
  ot : ByteArray
  pl : Nat
  cs : List Ch
def okc (c : UInt8) : Bool := (decide (97 ≤ c.toNat) && decide (c.toNat ≤ 122)) || (decide (48 ≤ c.toNat) && decide (c.toNat ≤ 57))
def nameB (s : ByteArray) : Bool := decide (1 ≤ s.size) && decide (s.size ≤ 12) && s.data.toList.all okc
def most (ki : Nat) : Nat := if ki = 1 then 0 else 256
def chB (c : Ch) : Bool := decide (1 ≤ c.k.size) && decide (c.k.size ≤ 32) && decide (c.ki ≤ 1) && decide (c.v.size ≤ most c.ki)
def two (k : Nat) : Bool := k == 1 || k == 3
def many (k : Nat) : Bool := k == 0 || k == 3
def trim (k : Nat) : Bool := k == 4
def chk (o : Rec) : Bool :=
  decide (o.kind ≤ 4) && nameB o.br && (if two o.kind then nameB o.ot else decide (o.ot.size = 0)) && (trim o.kind || decide (o.pl = 0)) && (many o.kind || decide (o.cs.length = 0))
    && (o.kind != 0 || (decide (1 ≤ o.cs.length) && decide (o.cs.length ≤ 32))) && o.cs.all chB
def ChFit (c : Ch) : Prop := c.va < 4294967296 ∧ c.ki < 256
def Fit (o : Rec) : Prop := o.kind < 256 ∧ o.pl < 18446744073709551616 ∧ ∀ c ∈ o.cs, ChFit c

/-! ### in bytes -/
def encS (s : ByteArray) : List UInt8 := enc s.size ++ s.data.toList
def encC (c : Ch) : List UInt8 := encS c.k ++ enc c.va ++ [UInt8.ofNat c.ki] ++ (if c.ki = 0 then encS c.v else [])
def encH (s : Nat) (o : Rec) : List UInt8 :=
  enc s ++ [UInt8.ofNat o.kind] ++ encS o.br ++ (if two o.kind then encS o.ot else []) ++ (if trim o.kind then enc o.pl else []) ++ (if many o.kind then enc o.cs.length else [])
def encOp (s : Nat) (o : Rec) : List UInt8 := encH s o ++ o.cs.flatMap encC

/-! ### out of bytes -/
def rdN (l : List UInt8) : Option (Nat × List UInt8) := if (dec l).2.2 = 0 then some ((dec l).1, l.drop (dec l).2.1) else none
def rdT (l : List UInt8) : Option (ByteArray × List UInt8) := if (decT l).2.2 = 0 then some (⟨(decT l).1.toArray⟩, l.drop (decT l).2.1) else none
def rdB : List UInt8 → Option (Nat × List UInt8)
  | [] => none
  | c :: l => some (c.toNat, l)
theorem ba_eq (s : ByteArray) : (⟨s.data.toList.toArray⟩ : ByteArray) = s := by cases s; simp
theorem ba_size (s : ByteArray) : s.data.toList.length = s.size := rfl
theorem ba_len (l : List UInt8) : (⟨l.toArray⟩ : ByteArray).size = l.length := by show l.toArray.size = _; simp
theorem rdN_enc (m : Nat) (hm : m < 18446744073709551616) (r : List UInt8) : rdN (enc m ++ r) = some (m, r) := by
  unfold rdN
  rw [dec_enc m hm]
  simp
theorem rdT_enc (s : ByteArray) (hs : s.size < 18446744073709551616) (r : List UInt8) : rdT (encS s ++ r) = some (s, r) := by
  unfold rdT encS
  rw [← ba_size s, decT_enc _ r (by rw [ba_size]; exact hs)]
  simp only [if_true, ba_eq]
  rw [← List.length_append, List.drop_left]
theorem rdB_cons (m : Nat) (hm : m < 256) (r : List UInt8) : rdB ([UInt8.ofNat m] ++ r) = some (m, r) := by
  show some ((UInt8.ofNat m).toNat, r) = _
  rw [nat_of_lt hm]
theorem rdN_some {l r : List UInt8} {m : Nat} (h : rdN l = some (m, r)) : l = enc m ++ r ∧ m < 18446744073709551616 := by
  unfold rdN at h
  rcases dec_cases l with ⟨x, e, hx, rest, hl⟩ | e | e
  · rw [e] at h
    simp only [if_true, Option.some.injEq, Prod.mk.injEq] at h
    obtain ⟨rfl, rfl⟩ := h
    refine ⟨?_, hx⟩
    conv => lhs; rw [hl]
    rw [hl, List.drop_left]
  · rw [e] at h; simp at h
  · rw [e] at h; simp at h
theorem rdT_some {l r : List UInt8} {s : ByteArray} (h : rdT l = some (s, r)) : l = encS s ++ r ∧ s.size < 18446744073709551616 := by
  unfold rdT at h
  rcases decT_cases l with ⟨x, e, hx, _, rest, hl⟩ | ⟨e, _⟩ | ⟨e, _⟩
  · rw [e] at h
    simp only [if_true, Option.some.injEq, Prod.mk.injEq] at h
    obtain ⟨rfl, rfl⟩ := h
    refine ⟨?_, by rw [ba_len]; exact hx⟩
    unfold encS
    rw [ba_len]
    conv => lhs; rw [hl]
    rw [hl, ← List.length_append, List.drop_left]
  · rw [e] at h; simp at h
  · rw [e] at h; simp at h
theorem rdB_some {l r : List UInt8} {m : Nat} (h : rdB l = some (m, r)) : l = [UInt8.ofNat m] ++ r ∧ m < 256 := by
  cases l with
  | nil => cases h
  | cons c l =>
    simp only [rdB, Option.some.injEq, Prod.mk.injEq] at h
    obtain ⟨rfl, rfl⟩ := h
    exact ⟨by simp, c.toNat_lt⟩
theorem rdN_len {l r : List UInt8} {m : Nat} (h : rdN l = some (m, r)) : r.length < l.length := by
  have := (rdN_some h).1
  rw [this, List.length_append]
  have := enc_pos m
  omega
theorem rdT_len {l r : List UInt8} {s : ByteArray} (h : rdT l = some (s, r)) : r.length < l.length := by
  have := (rdT_some h).1
  rw [this, encS, List.append_assoc, List.length_append]
  have := enc_pos s.size
  simp only [List.length_append]
  omega

def getC (l : List UInt8) : Option (Ch × List UInt8) :=
  (rdT l).bind fun (k, l1) => (rdN l1).bind fun (n, l2) => if 4294967295 < n then none else (rdB l2).bind fun (ki, l3) =>
    (if ki = 0 then rdT l3 else some (ByteArray.empty, l3)).bind fun (v, l4) => if chB ⟨k, n, ki, v⟩ then some (⟨k, n, ki, v⟩, l4) else none
def getCs : Nat → List UInt8 → Option (List Ch × List UInt8)
  | 0, l => some ([], l)
  | n + 1, l => (getC l).bind fun (c, l1) => (getCs n l1).bind fun (cs, l2) => some (c :: cs, l2)
def parseR (l : List UInt8) : Option (Nat × Rec × List UInt8) :=
  (rdN l).bind fun (s, l1) => (rdB l1).bind fun (kind, l2) => if s = 0 ∨ 4 < kind then none else (rdT l2).bind fun (br, l3) =>
    (if two kind then rdT l3 else some (ByteArray.empty, l3)).bind fun (ot, l4) => (if trim kind then rdN l4 else some (0, l4)).bind fun (pl, l5) =>
      (if many kind then (rdN l5).bind fun (n, l6) => getCs n l6 else some ([], l5)).bind fun (cs, l7) => some (s, ⟨kind, br, ot, pl, cs⟩, l7)
def parse (l : List UInt8) : Option (Nat × Rec) :=
  if 65536 < l.length then none else (parseR l).bind fun (s, o, r) => if r.length = 0 ∧ chk o = true then some (s, o) else none

theorem chB_parts {c : Ch} (h : chB c = true) : 1 ≤ c.k.size ∧ c.k.size ≤ 32 ∧ c.ki ≤ 1 ∧ c.v.size ≤ most c.ki := by
  unfold chB at h
  simp only [Bool.and_eq_true, decide_eq_true_eq] at h
  exact ⟨h.1.1.1, h.1.1.2, h.1.2, h.2⟩
theorem most_le (ki : Nat) : most ki ≤ 256 := by unfold most; split <;> omega
theorem size_zero {s : ByteArray} (h : s.size = 0) : s = ByteArray.empty := by
  rw [← ba_eq s, List.eq_nil_of_length_eq_zero (show s.data.toList.length = 0 from h)]
  rfl
theorem getC_enc {c : Ch} (h : chB c = true) (hf : ChFit c) (r : List UInt8) : getC (encC c ++ r) = some (c, r) := by
  obtain ⟨h1, h2, h3, h4⟩ := chB_parts h
  have h5 := most_le c.ki
  unfold getC encC
  simp only [List.append_assoc]
  rw [rdT_enc _ (by omega)]
  simp only [Option.bind_some]
  rw [rdN_enc _ (by have := hf.1; omega)]
  simp only [Option.bind_some]
  rw [if_neg (by have := hf.1; omega), rdB_cons _ hf.2]
  simp only [Option.bind_some]
  by_cases hk : c.ki = 0
  · rw [if_pos hk, if_pos hk, rdT_enc _ (by omega)]
    simp only [Option.bind_some]
    rw [if_pos h]
  · rw [if_neg hk, if_neg hk]
    have hk1 : c.ki = 1 := by omega
    have hv : c.v = ByteArray.empty := size_zero (by unfold most at h4; rw [if_pos hk1] at h4; omega)
    simp only [Option.bind_some, List.nil_append]
    have : (⟨c.k, c.va, c.ki, ByteArray.empty⟩ : Ch) = c := by rw [← hv]
    rw [this, if_pos h]
theorem getC_some {c : Ch} {l r : List UInt8} (h : getC l = some (c, r)) : l = encC c ++ r ∧ chB c = true ∧ ChFit c := by
  unfold getC at h
  rcases h1 : rdT l with _ | ⟨k, l1⟩
  · rw [h1] at h; cases h
  rw [h1] at h
  simp only [Option.bind_some] at h
  rcases h2 : rdN l1 with _ | ⟨n, l2⟩
  · rw [h2] at h; cases h
  rw [h2] at h
  simp only [Option.bind_some] at h
  by_cases hn : 4294967295 < n
  · rw [if_pos hn] at h; cases h
  rw [if_neg hn] at h
  rcases h3 : rdB l2 with _ | ⟨ki, l3⟩
  · rw [h3] at h; cases h
  rw [h3] at h
  simp only [Option.bind_some] at h
  obtain ⟨e1, s1⟩ := rdT_some h1
  obtain ⟨e2, s2⟩ := rdN_some h2
  obtain ⟨e3, s3⟩ := rdB_some h3
  by_cases hk : ki = 0
  · rw [if_pos hk] at h
    rcases h4 : rdT l3 with _ | ⟨v, l4⟩
    · rw [h4] at h; cases h
    rw [h4] at h
    simp only [Option.bind_some] at h
    obtain ⟨e4, s4⟩ := rdT_some h4
    by_cases hc : chB ⟨k, n, ki, v⟩ = true
    · rw [if_pos hc] at h
      simp only [Option.some.injEq, Prod.mk.injEq] at h
      obtain ⟨rfl, rfl⟩ := h
      refine ⟨?_, hc, by show n < _; omega, s3⟩
      unfold encC
      simp only
      rw [if_pos hk, e1, e2, e3, e4]
      simp only [List.append_assoc]
    · rw [if_neg hc] at h; cases h
  · rw [if_neg hk] at h
    simp only [Option.bind_some] at h
    by_cases hc : chB ⟨k, n, ki, ByteArray.empty⟩ = true
    · rw [if_pos hc] at h
      simp only [Option.some.injEq, Prod.mk.injEq] at h
      obtain ⟨rfl, rfl⟩ := h
      refine ⟨?_, hc, by show n < _; omega, s3⟩
      unfold encC
      simp only
      rw [if_neg hk, e1, e2, e3]
      simp only [List.append_assoc, List.nil_append]
    · rw [if_neg hc] at h; cases h
theorem getCs_enc : ∀ (cs : List Ch) (r : List UInt8), (∀ c ∈ cs, chB c = true ∧ ChFit c) → getCs cs.length (cs.flatMap encC ++ r) = some (cs, r)
  | [], r, _ => rfl
  | c :: cs, r, h => by
    have h1 := h c (by simp)
    have e : (c :: cs).flatMap encC ++ r = encC c ++ (cs.flatMap encC ++ r) := by rw [List.flatMap_cons, List.append_assoc]
    rw [e]
    show (getC _).bind _ = _
    rw [getC_enc h1.1 h1.2]
    simp only [Option.bind_some]
    rw [getCs_enc cs r (fun x hx => h x (by simp [hx]))]
    rfl
theorem getCs_some : ∀ (n : Nat) (cs : List Ch) (l r : List UInt8), getCs n l = some (cs, r) → l = cs.flatMap encC ++ r ∧ cs.length = n ∧ ∀ c ∈ cs, chB c = true ∧ ChFit c
  | 0, cs, l, r, h => by
    simp only [getCs, Option.some.injEq, Prod.mk.injEq] at h
    obtain ⟨rfl, rfl⟩ := h
    exact ⟨rfl, rfl, fun c hc => by cases hc⟩
  | n + 1, cs, l, r, h => by
    unfold getCs at h
    rcases h1 : getC l with _ | ⟨c, l1⟩
    · rw [h1] at h; cases h
    rw [h1] at h
    simp only [Option.bind_some] at h
    rcases h2 : getCs n l1 with _ | ⟨cs', l2⟩
    · rw [h2] at h; cases h
    rw [h2] at h
    simp only [Option.bind_some, Option.some.injEq, Prod.mk.injEq] at h
    obtain ⟨rfl, rfl⟩ := h
    obtain ⟨e1, s1, t1⟩ := getC_some h1
    obtain ⟨e2, s2, t2⟩ := getCs_some n cs' l1 l2 h2
    refine ⟨by rw [e1, e2, List.flatMap_cons, List.append_assoc], by simp [s2], fun x hx => ?_⟩
    rcases List.mem_cons.1 hx with rfl | hx
    · exact ⟨s1, t1⟩
    · exact t2 x hx
theorem chk_parts {o : Rec} (h : chk o = true) : o.kind ≤ 4 ∧ nameB o.br = true ∧ (if two o.kind then nameB o.ot = true else o.ot.size = 0) ∧ (trim o.kind = false → o.pl = 0) ∧ (many o.kind = false → o.cs.length = 0)
    ∧ (o.kind = 0 → 1 ≤ o.cs.length ∧ o.cs.length ≤ 32) ∧ ∀ c ∈ o.cs, chB c = true := by
  unfold chk at h
  simp only [Bool.and_eq_true, decide_eq_true_eq, Bool.or_eq_true, bne_iff_ne, ne_eq] at h
  obtain ⟨⟨⟨⟨⟨⟨h1, h2⟩, h3⟩, h4⟩, h5⟩, h6⟩, h7⟩ := h
  refine ⟨h1, h2, ?_, fun e => ?_, fun e => ?_, fun e => ?_, fun c hc => List.all_eq_true.1 h7 c hc⟩
  · split at h3 <;> rename_i e
    · rw [if_pos e]; exact h3
    · rw [if_neg e]; simpa using h3
  · rw [e] at h4; simpa using h4
  · rw [e] at h5; simpa using h5
  · rcases h6 with h6 | h6
    · exact absurd e h6
    · exact h6
theorem name_size {s : ByteArray} (h : nameB s = true) : 1 ≤ s.size ∧ s.size ≤ 12 := by
  unfold nameB at h
  simp only [Bool.and_eq_true, decide_eq_true_eq] at h
  exact h.1
theorem parseR_enc {s : Nat} {o : Rec} (h : chk o = true) (hf : Fit o) (h0 : s ≠ 0) (hs : s < 18446744073709551616) (hl : o.cs.length < 18446744073709551616) (r : List UInt8) : parseR (encOp s o ++ r) = some (s, o, r) := by
  obtain ⟨c1, c2, c3, c4, c5, c6, c7⟩ := chk_parts h
  have nb := name_size c2
  have hcs := getCs_enc o.cs r (fun c hc => ⟨c7 c hc, hf.2.2 c hc⟩)
  unfold parseR encOp encH
  simp only [List.append_assoc]
  rw [rdN_enc _ hs]
  simp only [Option.bind_some]
  rw [rdB_cons _ hf.1]
  simp only [Option.bind_some]
  rw [if_neg (by omega), rdT_enc _ (by omega)]
  simp only [Option.bind_some]
  have e2 : ∀ X : List UInt8, (if two o.kind = true then rdT ((if two o.kind = true then encS o.ot else []) ++ X) else some (ByteArray.empty, (if two o.kind = true then encS o.ot else []) ++ X)) = some (o.ot, X) := by
    intro X
    by_cases e : two o.kind = true
    · rw [if_pos e] at c3
      have := name_size c3
      rw [if_pos e, if_pos e, rdT_enc _ (by omega)]
    · rw [if_neg e] at c3
      rw [if_neg e, if_neg e, size_zero c3]
      rfl
  rw [e2]
  simp only [Option.bind_some]
  have e3 : ∀ X : List UInt8, (if trim o.kind = true then rdN ((if trim o.kind = true then enc o.pl else []) ++ X) else some (0, (if trim o.kind = true then enc o.pl else []) ++ X)) = some (o.pl, X) := by
    intro X
    by_cases e : trim o.kind = true
    · rw [if_pos e, if_pos e, rdN_enc _ hf.2.1]
    · rw [if_neg e, if_neg e, c4 (by simpa using e)]
      rfl
  rw [e3]
  simp only [Option.bind_some]
  have e4 : (if many o.kind = true then (rdN ((if many o.kind = true then enc o.cs.length else []) ++ (o.cs.flatMap encC ++ r))).bind (fun (n, l6) => getCs n l6) else some ([], (if many o.kind = true then enc o.cs.length else []) ++ (o.cs.flatMap encC ++ r))) = some (o.cs, r) := by
    by_cases e : many o.kind = true
    · rw [if_pos e, if_pos e, rdN_enc _ hl]
      exact hcs
    · rw [if_neg e, if_neg e, List.eq_nil_of_length_eq_zero (c5 (by simpa using e))]
      rfl
  rw [e4]
  rfl
theorem parseR_some {l r : List UInt8} {s : Nat} {o : Rec} (h : parseR l = some (s, o, r)) : l = encOp s o ++ r ∧ s ≠ 0 ∧ s < 18446744073709551616 ∧ Fit o ∧ o.cs.length < 18446744073709551616 := by
  unfold parseR at h
  rcases h1 : rdN l with _ | ⟨s', l1⟩
  · rw [h1] at h; cases h
  rw [h1] at h
  simp only [Option.bind_some] at h
  rcases h2 : rdB l1 with _ | ⟨kind, l2⟩
  · rw [h2] at h; cases h
  rw [h2] at h
  simp only [Option.bind_some] at h
  by_cases h3 : s' = 0 ∨ 4 < kind
  · rw [if_pos h3] at h; cases h
  rw [if_neg h3] at h
  rcases h4 : rdT l2 with _ | ⟨br, l3⟩
  · rw [h4] at h; cases h
  rw [h4] at h
  simp only [Option.bind_some] at h
  obtain ⟨ot, l4, h5, e5⟩ : ∃ ot l4, (if two kind = true then rdT l3 else some (ByteArray.empty, l3)) = some (ot, l4) ∧ l3 = (if two kind = true then encS ot else []) ++ l4 := by
    by_cases e : two kind = true
    · rw [if_pos e] at h ⊢
      rcases h5 : rdT l3 with _ | ⟨ot, l4⟩
      · rw [h5] at h; cases h
      · exact ⟨ot, l4, rfl, by rw [if_pos e]; exact (rdT_some h5).1⟩
    · exact ⟨ByteArray.empty, l3, by rw [if_neg e], by rw [if_neg e]; rfl⟩
  rw [h5] at h
  simp only [Option.bind_some] at h
  obtain ⟨pl, l5, h6, e6, b6⟩ : ∃ pl l5, (if trim kind = true then rdN l4 else some (0, l4)) = some (pl, l5) ∧ l4 = (if trim kind = true then enc pl else []) ++ l5 ∧ pl < 18446744073709551616 := by
    by_cases e : trim kind = true
    · rw [if_pos e] at h ⊢
      rcases h6 : rdN l4 with _ | ⟨pl, l5⟩
      · rw [h6] at h; cases h
      · exact ⟨pl, l5, rfl, by rw [if_pos e]; exact (rdN_some h6).1, (rdN_some h6).2⟩
    · exact ⟨0, l4, by rw [if_neg e], by rw [if_neg e]; rfl, by omega⟩
  rw [h6] at h
  simp only [Option.bind_some] at h
  obtain ⟨cs, l7, h7, e7, b7, c7⟩ : ∃ cs l7, (if many kind = true then (rdN l5).bind (fun (n, l6) => getCs n l6) else some ([], l5)) = some (cs, l7) ∧ l5 = (if many kind = true then enc cs.length else []) ++ (cs.flatMap encC ++ l7) ∧ (∀ c ∈ cs, ChFit c) ∧ cs.length < 18446744073709551616 := by
    by_cases e : many kind = true
    · rw [if_pos e] at h ⊢
      rcases h7 : rdN l5 with _ | ⟨n, l6⟩
      · rw [h7] at h; cases h
      rw [h7] at h
      simp only [Option.bind_some] at h ⊢
      rcases h8 : getCs n l6 with _ | ⟨cs, l7⟩
      · rw [h8] at h; cases h
      obtain ⟨g1, g2, g3⟩ := getCs_some _ _ _ _ h8
      obtain ⟨g4, g5⟩ := rdN_some h7
      exact ⟨cs, l7, rfl, by rw [if_pos e, g2, ← g1]; exact g4, fun c hc => (g3 c hc).2, by omega⟩
    · exact ⟨[], l5, by rw [if_neg e], by rw [if_neg e]; rfl, fun c hc => (by cases hc), by simp⟩
  rw [h7] at h
  simp only [Option.bind_some, Option.some.injEq, Prod.mk.injEq] at h
  obtain ⟨rfl, rfl, rfl⟩ := h
  obtain ⟨g1, g2⟩ := rdN_some h1
  obtain ⟨g3, g4⟩ := rdB_some h2
  obtain ⟨g5, g6⟩ := rdT_some h4
  refine ⟨?_, by omega, g2, ⟨g4, b6, b7⟩, c7⟩
  unfold encOp encH
  simp only [List.append_assoc]
  rw [g1, g3, g5, e5, e6, e7]

/-- What is put is got. -/
theorem parse_enc {s : Nat} {o : Rec} (h : chk o = true) (hf : Fit o) (h0 : s ≠ 0) (hs : s < 18446744073709551616) (hl : o.cs.length < 18446744073709551616) (hb : (encOp s o).length ≤ 65536) : parse (encOp s o) = some (s, o) := by
  unfold parse
  have := parseR_enc h hf h0 hs hl []
  rw [List.append_nil] at this
  rw [if_neg (by omega), this]
  simp [h]
/-- Of what is got the same bytes are put. -/
theorem parse_some {l : List UInt8} {s : Nat} {o : Rec} (h : parse l = some (s, o)) : l = encOp s o ∧ chk o = true ∧ s ≠ 0 ∧ s < 18446744073709551616 ∧ Fit o ∧ o.cs.length < 18446744073709551616 ∧ l.length ≤ 65536 := by
  unfold parse at h
  by_cases hb : 65536 < l.length
  · rw [if_pos hb] at h; cases h
  rw [if_neg hb] at h
  rcases h1 : parseR l with _ | ⟨s', o', r⟩
  · rw [h1] at h; cases h
  rw [h1] at h
  simp only [Option.bind_some] at h
  by_cases hc : r.length = 0 ∧ chk o' = true
  · rw [if_pos hc] at h
    simp only [Option.some.injEq, Prod.mk.injEq] at h
    obtain ⟨rfl, rfl⟩ := h
    obtain ⟨e, h0, hs, hf, hl⟩ := parseR_some h1
    rw [List.eq_nil_of_length_eq_zero hc.1, List.append_nil] at e
    exact ⟨e, hc.2, h0, hs, hf, hl, by omega⟩
  · rw [if_neg hc] at h; cases h
/-- No beginning of an op's bytes is an op's, nor they with others behind. -/
theorem parse_prefix {l m : List UInt8} {s s' : Nat} {o o' : Rec} (h : parse l = some (s, o)) (h' : parse (l ++ m) = some (s', o')) : m = [] := by
  obtain ⟨e, hc, h0, hs, hf, hl, _⟩ := parse_some h
  unfold parse at h'
  split at h'
  · cases h'
  · rw [e, parseR_enc hc hf h0 hs hl m] at h'
    simp only [Option.bind_some] at h'
    split at h'
    · rename_i hc
      exact List.eq_nil_of_length_eq_zero hc.1
    · cases h'
end Herb.Cm
