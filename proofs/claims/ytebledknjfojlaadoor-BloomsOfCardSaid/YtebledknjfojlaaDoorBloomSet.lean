/- The plain law of filters: how many bits are set; what the order does; what more bits do. No program. -/
import Derived.Test.YtebledknjfojlaaDoorBloomLaw
set_option linter.unusedSimpArgs false
set_option linter.unusedVariables false
namespace Herb
/-- How many bytes a filter of n keys has, but for its last. -/
def room (n : Nat) : Nat := max 8 ((10 * n + 7) / 8)
def text (s : ByteArray) : List UInt8 := s.data.toList
/-- The filter's bits when keys have been told. -/
def told (m : Nat) (l : List UInt8) (ks : List ByteArray) : List UInt8 := ks.foldl (fun l s => (places (more 0 (text s)) m).foldl setBit l) l
def ofP (ks : List ByteArray) : List UInt8 := told (8 * room ks.length) (List.replicate (room ks.length) 0) ks ++ [6]
theorem told_length (m : Nat) (ks : List ByteArray) : ∀ l : List UInt8, (told m l ks).length = l.length := by
  induction ks with
  | nil => intro l; rfl
  | cons s ks ih => intro l; unfold told at ih ⊢; rw [List.foldl_cons, ih, foldl_length]
theorem told_snoc (m : Nat) (l : List UInt8) (ks : List ByteArray) (s : ByteArray) : told m l (ks ++ [s]) = (places (more 0 (text s)) m).foldl setBit (told m l ks) := by
  unfold told
  rw [List.foldl_append, List.foldl_cons, List.foldl_nil]
theorem ofP_length (ks : List ByteArray) : (ofP ks).length = room ks.length + 1 := by
  unfold ofP
  rw [List.length_append, told_length]
  simp
/-- How many bits of a byte are set; of bytes. -/
def popF : Nat → Nat → Nat
  | 0, _ => 0
  | f + 1, c => c % 2 + popF f (c / 2)
def pop (c : UInt8) : Nat := popF 8 c.toNat
def pops (l : List UInt8) : Nat := (l.map pop).sum
theorem pops_nil : pops [] = 0 := rfl
theorem pops_cons (c : UInt8) (l : List UInt8) : pops (c :: l) = pop c + pops l := by simp [pops]
theorem pops_append (a b : List UInt8) : pops (a ++ b) = pops a + pops b := by simp [pops]
theorem pops_zero (n : Nat) : pops (List.replicate n 0) = 0 := by
  induction n with
  | zero => rfl
  | succ n ih => rw [List.replicate_succ, pops_cons, ih]; rfl
theorem popF_or : ∀ c : Fin 256, ∀ k : Fin 8, popF 8 (c.1 ||| 2 ^ k.1) ≤ popF 8 c.1 + 1 := by decide +kernel
theorem popF_pos : ∀ c : Fin 256, ∀ k : Fin 8, c.1 / 2 ^ k.1 % 2 = 1 → 1 ≤ popF 8 c.1 := by decide +kernel
theorem popF_le : ∀ c : Fin 256, popF 8 c.1 ≤ 8 := by decide +kernel
theorem pop_le (c : UInt8) : pop c ≤ 8 := popF_le ⟨c.toNat, c.toNat_lt⟩
theorem pops_le (l : List UInt8) : pops l ≤ 8 * l.length := by
  induction l with
  | nil => simp [pops]
  | cons c l ih => rw [pops_cons, List.length_cons]; have := pop_le c; omega
theorem pop_or (c : UInt8) (p : Nat) : pop (c ||| UInt8.ofNat (2 ^ (p % 8))) ≤ pop c + 1 := by
  unfold pop
  rw [UInt8.toNat_or, UInt8.toNat_ofNat', Nat.mod_eq_of_lt (pow_lt256 p)]
  exact popF_or ⟨c.toNat, c.toNat_lt⟩ ⟨p % 8, Nat.mod_lt _ (by omega)⟩
theorem pops_set (l : List UInt8) (i : Nat) (c : UInt8) (h : i < l.length) : pops (l.set i c) + pop l[i] = pops l + pop c := by
  induction l generalizing i with
  | nil => simp at h
  | cons d l ih =>
    cases i with
    | zero => simp only [List.set_cons_zero, pops_cons, List.getElem_cons_zero]; omega
    | succ i =>
      have := ih i (by simpa using h)
      simp only [List.set_cons_succ, pops_cons, List.getElem_cons_succ]
      omega
theorem pops_setBit (l : List UInt8) (p : Nat) : pops (setBit l p) ≤ pops l + 1 := by
  unfold setBit
  by_cases h : p / 8 < l.length
  · have h1 := pops_set l (p / 8) (l.getD (p / 8) 0 ||| UInt8.ofNat (2 ^ (p % 8))) h
    have h2 := pop_or l[p / 8] p
    have e : l.getD (p / 8) 0 = l[p / 8] := by simp [List.getD, h]
    rw [e] at h1 ⊢
    omega
  · rw [List.set_eq_of_length_le (by omega)]
    omega
theorem pops_foldl (ps : List Nat) : ∀ l, pops (ps.foldl setBit l) ≤ pops l + ps.length := by
  induction ps with
  | nil => intro l; simp
  | cons p ps ih =>
    intro l
    rw [List.foldl_cons, List.length_cons]
    have h1 := ih (setBit l p)
    have h2 := pops_setBit l p
    omega
theorem places_length (s m : Nat) : (places s m).length = 6 := by simp [places]
theorem pops_told (m : Nat) (ks : List ByteArray) : ∀ l, pops (told m l ks) ≤ pops l + 6 * ks.length := by
  induction ks with
  | nil => intro l; simp [told]
  | cons s ks ih =>
    intro l
    have h1 := ih ((places (more 0 (text s)) m).foldl setBit l)
    have h2 := pops_foldl (places (more 0 (text s)) m) l
    rw [places_length] at h2
    unfold told at h1 ⊢
    rw [List.foldl_cons, List.length_cons]
    omega
/-- All places that keys have. -/
def spots (m : Nat) (ks : List ByteArray) : List Nat := ks.flatMap fun s => places (more 0 (text s)) m
theorem told_spots (m : Nat) (ks : List ByteArray) : ∀ l, told m l ks = (spots m ks).foldl setBit l := by
  induction ks with
  | nil => intro l; rfl
  | cons s ks ih =>
    intro l
    have := ih ((places (more 0 (text s)) m).foldl setBit l)
    unfold told at this ⊢
    rw [List.foldl_cons, this]
    simp [spots, List.flatMap_cons, List.foldl_append]
theorem spots_lt {m : Nat} (hm : 0 < m) {ks : List ByteArray} : ∀ p ∈ spots m ks, p < m := by
  intro p hp
  obtain ⟨s, _, h⟩ := List.mem_flatMap.1 hp
  obtain ⟨k, _, rfl⟩ := List.mem_map.1 h
  exact place_lt _ _ _ hm
theorem bitAt_zero (n p : Nat) : bitAt (List.replicate n 0) p = false := by
  unfold bitAt
  have : (List.replicate n (0 : UInt8)).getD (p / 8) 0 = 0 := by
    simp only [List.getD, List.getElem?_replicate]
    split <;> rfl
  rw [this]
  simp
theorem bitAt_told (B : Nat) (hB : 0 < B) (ks : List ByteArray) (q : Nat) : bitAt (told (8 * B) (List.replicate B 0) ks) q = (spots (8 * B) ks).contains q := by
  rw [told_spots, bitAt_foldl _ _ _ (fun p hp => by have := spots_lt (show 0 < 8 * B by omega) p hp; rw [List.length_replicate]; omega), bitAt_zero, Bool.false_or]
/-- Bytes are what their bits are. -/
theorem bits_ext {a b : List UInt8} (hl : a.length = b.length) (h : ∀ q, bitAt a q = bitAt b q) : a = b := by
  refine List.ext_getElem hl fun i h1 h2 => ?_
  refine UInt8.toNat_inj.1 (Nat.eq_of_testBit_eq fun k => ?_)
  by_cases hk : k < 8
  · have h3 := h (8 * i + k)
    rw [bitAt_test, bitAt_test, show (8 * i + k) / 8 = i by omega, show (8 * i + k) % 8 = k by omega] at h3
    simpa [List.getD, h1, h2] using h3
  · have hp : (256 : Nat) ≤ 2 ^ k := by
      have : 2 ^ 8 ≤ 2 ^ k := Nat.pow_le_pow_right (by omega) (by omega)
      omega
    rw [Nat.testBit_lt_two_pow (Nat.lt_of_lt_of_le a[i].toNat_lt hp), Nat.testBit_lt_two_pow (Nat.lt_of_lt_of_le b[i].toNat_lt hp)]
theorem told_ext (B : Nat) (hB : 0 < B) (ks js : List ByteArray) (h : ∀ s, s ∈ ks ↔ s ∈ js) : told (8 * B) (List.replicate B 0) ks = told (8 * B) (List.replicate B 0) js := by
  refine bits_ext (by rw [told_length, told_length]) fun q => ?_
  rw [bitAt_told B hB, bitAt_told B hB, Bool.eq_iff_iff, List.contains_iff_mem, List.contains_iff_mem]
  unfold spots
  rw [List.mem_flatMap, List.mem_flatMap]
  exact ⟨fun ⟨s, h1, h2⟩ => ⟨s, (h s).1 h1, h2⟩, fun ⟨s, h1, h2⟩ => ⟨s, (h s).2 h1, h2⟩⟩
theorem room_pos (n : Nat) : 8 ≤ room n := by unfold room; omega
/-- A filter in another order. -/
theorem ofP_perm (ks : List ByteArray) (k : Nat) : ofP (ks.drop k ++ ks.take k) = ofP ks := by
  have hlen : (ks.drop k ++ ks.take k).length = ks.length := by
    rw [List.length_append, List.length_drop, List.length_take]; omega
  unfold ofP
  rw [hlen]
  congr 1
  refine told_ext _ (by have := room_pos ks.length; omega) _ _ fun s => ?_
  rw [List.mem_append, Or.comm, ← List.mem_append, List.take_append_drop]
theorem pop6 : pop 6 = 2 := by decide +kernel
theorem ofP_twice (ks : List ByteArray) : pops (ofP (ks ++ ks)) ≤ 6 * ks.length + 2 := by
  unfold ofP
  rw [pops_append, told_ext (room (ks ++ ks).length) (by have := room_pos (ks ++ ks).length; omega) (ks ++ ks) ks (fun s => by simp)]
  have h := pops_told (8 * room (ks ++ ks).length) ks (List.replicate (room (ks ++ ks).length) 0)
  rw [pops_zero] at h
  have h6 : pops [6] = 2 := by rw [pops_cons, pop6]; rfl
  omega
/-- A filter's bits are told by the bytes but for the last. -/
theorem bitAt_front {l z : List UInt8} {q : Nat} (h : q / 8 < l.length) : bitAt (l ++ z) q = bitAt l q := by
  unfold bitAt
  have : (l ++ z).getD (q / 8) 0 = l.getD (q / 8) 0 := by simp [List.getD, List.getElem?_append_left h]
  rw [this]
theorem hasP_six (l kl : List UInt8) (h : 8 ≤ l.length) : hasP (l ++ [6]) kl = (places (more 0 kl) (8 * l.length)).all (bitAt l) := by
  unfold hasP
  have e1 : (l ++ [6]).length - 1 = l.length := by simp
  have e2 : (l ++ [6]).getD l.length 0 = (6 : UInt8) := by simp [List.getD]
  rw [e1, e2, if_neg (by rw [List.length_append]; simp; omega)]
  have hlt : ∀ x ∈ places (more 0 kl) (8 * l.length), x / 8 < l.length := fun x hx => by
    obtain ⟨k, _, rfl⟩ := List.mem_map.1 hx
    have := place_lt (more 0 kl) (8 * l.length) k (by omega)
    omega
  rw [Bool.eq_iff_iff, List.all_eq_true, List.all_eq_true]
  exact ⟨fun h x hx => by rw [← bitAt_front (hlt x hx)]; exact h x hx, fun h x hx => by rw [bitAt_front (hlt x hx)]; exact h x hx⟩
theorem hasP_own (ks : List ByteArray) (s : ByteArray) (h : s ∈ ks) : hasP (ofP ks) (text s) = true := by
  have hr := room_pos ks.length
  unfold ofP
  have hl : (told (8 * room ks.length) (List.replicate (room ks.length) 0) ks).length = room ks.length := by rw [told_length, List.length_replicate]
  rw [hasP_six _ _ (by rw [hl]; omega), hl, List.all_eq_true]
  intro x hx
  rw [bitAt_told _ (by omega), List.contains_iff_mem]
  exact List.mem_flatMap.2 ⟨s, h, hx⟩
theorem le_sum {x : Nat} : ∀ {l : List Nat}, x ∈ l → x ≤ l.sum
  | y :: l, h => by
    rw [List.sum_cons]
    rcases List.mem_cons.1 h with rfl | h
    · omega
    · have := le_sum h; omega
theorem pops_pos {l : List UInt8} {q : Nat} (h : bitAt l q = true) : 1 ≤ pops l := by
  unfold bitAt at h
  by_cases hq : q / 8 < l.length
  · rw [show l.getD (q / 8) 0 = l[q / 8] by simp [List.getD, hq]] at h
    have h1 := popF_pos ⟨l[q / 8].toNat, l[q / 8].toNat_lt⟩ ⟨q % 8, Nat.mod_lt _ (by omega)⟩ (by simpa using h)
    have h2 : pop l[q / 8] ≤ pops l := by
      unfold pops
      exact le_sum (List.mem_map.2 ⟨_, List.getElem_mem hq, rfl⟩)
    have h3 : 1 ≤ pop l[q / 8] := h1
    omega
  · rw [show l.getD (q / 8) 0 = 0 by simp [List.getD, List.getElem?_eq_none (by omega : l.length ≤ q / 8)]] at h
    simp at h
theorem told_pos (ks : List ByteArray) (h : ks ≠ []) : 1 ≤ pops (told (8 * room ks.length) (List.replicate (room ks.length) 0) ks) := by
  have hr := room_pos ks.length
  obtain ⟨s, js, rfl⟩ := List.exists_cons_of_ne_nil h
  refine pops_pos (q := place (more 0 (text s)) (8 * room (s :: js).length) 0) ?_
  rw [bitAt_told _ (by omega), List.contains_iff_mem]
  exact List.mem_flatMap.2 ⟨s, List.mem_cons_self, List.mem_map.2 ⟨0, by simp, rfl⟩⟩
theorem told_most (ks : List ByteArray) : pops (told (8 * room ks.length) (List.replicate (room ks.length) 0) ks) ≤ 6 * ks.length := by
  have := pops_told (8 * room ks.length) ks (List.replicate (room ks.length) 0)
  rw [pops_zero] at this
  omega
/-- More bits. -/
theorem bitAt_or {a b : List UInt8} {q : Nat} (h : bitAt a q = true) (hab : a.length ≤ b.length) : bitAt (List.zipWith (· ||| ·) a b) q = true := by
  rw [bitAt_test] at h ⊢
  by_cases hq : q / 8 < a.length
  · have e : (List.zipWith (· ||| ·) a b).getD (q / 8) 0 = a[q / 8] ||| b[q / 8]'(by omega) := by
      simp [List.getD, List.getElem?_zipWith, hq, show q / 8 < b.length by omega]
    rw [show a.getD (q / 8) 0 = a[q / 8] by simp [List.getD, hq]] at h
    rw [e, UInt8.toNat_or, Nat.testBit_or, h, Bool.true_or]
  · rw [show a.getD (q / 8) 0 = 0 by simp [List.getD, List.getElem?_eq_none (by omega : a.length ≤ q / 8)]] at h
    simp at h
theorem hasP_none (n : Nat) (hn : 8 ≤ n) (kl : List UInt8) : hasP (List.replicate n 0 ++ [6]) kl = false := by
  rw [hasP_six _ _ (by simpa using hn)]
  have : place (more 0 kl) (8 * (List.replicate n (0 : UInt8)).length) 0 ∈ places (more 0 kl) (8 * (List.replicate n (0 : UInt8)).length) := List.mem_map.2 ⟨0, by simp, rfl⟩
  refine Bool.eq_false_iff.2 fun h => ?_
  have h1 := List.all_eq_true.1 h _ this
  rw [bitAt_zero] at h1
  cases h1
theorem hasP_full (n : Nat) (hn : 8 ≤ n) (kl : List UInt8) : hasP (List.replicate n 255 ++ [6]) kl = true := by
  rw [hasP_six _ _ (by simpa using hn), List.all_eq_true]
  intro x hx
  obtain ⟨k, _, rfl⟩ := List.mem_map.1 hx
  have hp := place_lt (more 0 kl) (8 * (List.replicate n (255 : UInt8)).length) k (by rw [List.length_replicate]; omega)
  generalize place (more 0 kl) (8 * (List.replicate n (255 : UInt8)).length) k = x at *
  rw [List.length_replicate] at hp
  unfold bitAt
  rw [show (List.replicate n (255 : UInt8)).getD (x / 8) 0 = 255 by simp [List.getD, show x / 8 < n by omega]]
  have h8 : ∀ k : Fin 8, ((255 : UInt8).toNat / 2 ^ k.1 % 2 == 1) = true := by decide +kernel
  exact h8 ⟨x % 8, Nat.mod_lt _ (by omega)⟩
theorem hasP_more (a b kl : List UInt8) (n : Nat) (hab : a.length = b.length) (h : hasP (List.replicate 8 0 ++ a ++ [6]) kl = true) : hasP (List.replicate 8 0 ++ List.zipWith (· ||| ·) a b ++ [6]) kl = true := by
  rw [hasP_six _ _ (by simp), List.all_eq_true] at h ⊢
  have hl : (List.replicate 8 (0 : UInt8) ++ List.zipWith (· ||| ·) a b).length = (List.replicate 8 (0 : UInt8) ++ a).length := by simp [hab]
  rw [hl]
  intro x hx
  have hz : List.replicate 8 (0 : UInt8) ++ List.zipWith (· ||| ·) a b = List.zipWith (· ||| ·) (List.replicate 8 (0 : UInt8) ++ a) (List.replicate 8 (0 : UInt8) ++ b) := by
    rw [List.zipWith_append (by simp)]
    rfl
  rw [hz]
  exact bitAt_or (h x hx) (by simp [hab])
end Herb
