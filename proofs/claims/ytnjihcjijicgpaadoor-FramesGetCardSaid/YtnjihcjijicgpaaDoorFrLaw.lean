/- Records in blocks, in plain Lean: no program in sight. 'put' lays a record's parts, 'get' reads them: each undoes the other; one byte turned is seen; how long a record is. -/
import Derived.Test.YtnjihcjijicgpaaDoorCrc
set_option linter.unusedSimpArgs false
set_option linter.unusedVariables false
namespace Herb.Fr
open Herb

def gap (p : Nat) : Nat := if 256 - p % 256 < 7 then 256 - p % 256 else 0
def room (p : Nat) : Nat := 249 - (p + gap p) % 256
def zeros (n : Nat) : List UInt8 := List.replicate n 0
def tail3 (k : UInt8) (n : Nat) : List UInt8 := [UInt8.ofNat n, UInt8.ofNat (n / 256), k]
def sumT (t b : List UInt8) : Nat := more (more 0 t) b
def le4 (s : Nat) : List UInt8 := [UInt8.ofNat s, UInt8.ofNat (s / 256), UInt8.ofNat (s / 65536), UInt8.ofNat (s / 16777216)]
def head (k : UInt8) (b : List UInt8) : List UInt8 := le4 (sumT (tail3 k b.length) b) ++ tail3 k b.length
def part (k : UInt8) (b : List UInt8) : List UInt8 := head k b ++ b
def kindOf (begun fin : Bool) : UInt8 := if begun then (if fin then 4 else 3) else (if fin then 1 else 2)

def putF : Nat → Nat → Bool → List UInt8 → List UInt8
  | 0, _, _, _ => []
  | f + 1, p, begun, r =>
    if r.length ≤ room p then zeros (gap p) ++ part (kindOf begun true) r
    else zeros (gap p) ++ part (kindOf begun false) (r.take (room p)) ++ putF f (p + gap p + 7 + room p) true (r.drop (room p))
theorem putF_le (f p : Nat) (g : Bool) (r : List UInt8) (h : r.length ≤ room p) : putF (f + 1) p g r = zeros (gap p) ++ part (kindOf g true) r := by
  show (if _ then _ else _) = _
  rw [if_pos h]
theorem putF_gt (f p : Nat) (g : Bool) (r : List UInt8) (h : room p < r.length) : putF (f + 1) p g r = zeros (gap p) ++ part (kindOf g false) (r.take (room p)) ++ putF f (p + gap p + 7 + room p) true (r.drop (room p)) := by
  show (if _ then _ else _) = _
  rw [if_neg (by omega)]
/-- So many rounds are enough. -/
def Enough (f p : Nat) (r : List UInt8) : Prop := r.length + (if p % 256 = 0 then 1 else 2) ≤ f
def put (p : Nat) (r : List UInt8) : List UInt8 := putF (r.length + 2) p false r

theorem gap_le (p : Nat) : gap p ≤ 6 := by unfold gap; split <;> omega
theorem geo (p : Nat) : (p + gap p) % 256 ≤ 249 ∧ room p + (p + gap p) % 256 = 249 ∧ (p + gap p + 7 + room p) % 256 = 0 := by
  have h : (p + gap p) % 256 ≤ 249 := by unfold gap; split <;> omega
  unfold room
  exact ⟨h, by omega, by omega⟩
theorem room_le (p : Nat) : room p ≤ 249 := by unfold room; omega
theorem room_zero (p : Nat) (h : p % 256 = 0) : room p = 249 ∧ gap p = 0 := by
  have : gap p = 0 := by unfold gap; rw [if_neg (by omega)]
  unfold room
  rw [this]
  exact ⟨by omega, rfl⟩
theorem gap_mod (p : Nat) : gap (p % 256) = gap p := by unfold gap; simp
theorem room_mod (p : Nat) : room (p % 256) = room p := by unfold room; rw [gap_mod]; omega
theorem gap_add (p q : Nat) (h : p % 256 = q % 256) : gap p = gap q := by unfold gap; rw [h]
theorem room_add (p q : Nat) (h : p % 256 = q % 256) : room p = room q := by unfold room; rw [gap_add p q h]; omega
theorem enough_next {f p : Nat} {r : List UInt8} (h : Enough (f + 1) p r) (hr : room p < r.length) : Enough f (p + gap p + 7 + room p) (r.drop (room p)) := by
  unfold Enough at *
  rw [if_pos (geo p).2.2, List.length_drop]
  split at h
  · have := (room_zero p ‹_›).1; omega
  · omega
theorem enough_put (p : Nat) (r : List UInt8) : Enough (r.length + 2) p r := by unfold Enough; split <;> omega
theorem putF_mod (f p q : Nat) (h : p % 256 = q % 256) (g : Bool) (r : List UInt8) : putF f p g r = putF f q g r := by
  induction f generalizing p q g r with
  | zero => rfl
  | succ f ih =>
    unfold putF
    rw [gap_add p q h, room_add p q h, ih (p + gap q + 7 + room q) (q + gap q + 7 + room q) (by omega)]
theorem put_mod (p : Nat) (r : List UInt8) : put (p % 256) r = put p r := putF_mod _ _ _ (by omega) _ _
/-- How many rounds are told does not matter, if they are enough. -/
theorem putF_fuel (f f' p : Nat) (g : Bool) (r : List UInt8) (h : Enough f p r) (h' : Enough f' p r) : putF f p g r = putF f' p g r := by
  induction f generalizing f' p g r with
  | zero => unfold Enough at h; split at h <;> omega
  | succ f ih =>
    cases f' with
    | zero => unfold Enough at h'; split at h' <;> omega
    | succ f' =>
      unfold putF
      by_cases hr : r.length ≤ room p
      · rw [if_pos hr, if_pos hr]
      · rw [if_neg hr, if_neg hr, ih f' _ _ _ (enough_next h (by omega)) (enough_next h' (by omega))]

theorem zeros_length (n : Nat) : (zeros n).length = n := by simp [zeros]
theorem le4_length (s : Nat) : (le4 s).length = 4 := rfl
theorem tail3_length (k : UInt8) (n : Nat) : (tail3 k n).length = 3 := rfl
theorem head_length (k : UInt8) (b : List UInt8) : (head k b).length = 7 := rfl
theorem part_length (k : UInt8) (b : List UInt8) : (part k b).length = 7 + b.length := by simp [part, head_length]

/-- How long a record's bytes may be. -/
theorem putF_length_le (f p : Nat) (g : Bool) (r : List UInt8) : (putF f p g r).length ≤ 20 * r.length + (if p % 256 = 0 then 7 else 26) := by
  induction f generalizing p g r with
  | zero => simp [putF]
  | succ f ih =>
    unfold putF
    have h1 := gap_le p
    split
    · simp only [List.length_append, zeros_length, part_length]
      split
      · have := (room_zero p ‹_›).2; omega
      · omega
    · have h2 := ih (p + gap p + 7 + room p) true (r.drop (room p))
      rw [if_pos (geo p).2.2] at h2
      simp only [List.length_append, zeros_length, part_length, List.length_take, List.length_drop] at h2 ⊢
      split
      · have := room_zero p ‹_›; omega
      · omega

/-! ### getting -/
def fits (k : UInt8) (n : Nat) (begun : Bool) (room had : Nat) : Bool :=
  if k = 1 then !begun && decide (n ≤ room)
  else if k = 2 then !begun && decide (n = room)
  else if k = 3 then begun && decide (n = room) && decide (had + n ≤ 65536)
  else if k = 4 then begun && decide (n ≤ room) && decide (0 < n) && decide (had + n ≤ 65536)
  else false
def allZ (b : List UInt8) : Bool := b.all (· == 0)
def sub (b : List UInt8) (i n : Nat) : List UInt8 := (b.drop i).take n
def many (b : List UInt8) (t : Nat) : Nat := (b.getD (t + 4) 0).toNat + 256 * (b.getD (t + 5) 0).toNat
/-- One part: an error's number, or its kind, its bytes, and where it ends. -/
def step (b : List UInt8) (p : Nat) (begun : Bool) (had : Nat) : Nat ⊕ (UInt8 × List UInt8 × Nat) :=
  if allZ (sub b p (gap p)) = false then .inl 4
  else if b.length < p + gap p + 7 then .inl 5
  else if fits (b.getD (p + gap p + 6) 0) (many b (p + gap p)) begun (room p) had = false then .inl 4
  else if b.length < p + gap p + 7 + many b (p + gap p) then .inl 5
  else if le4 (sumT (sub b (p + gap p + 4) 3) (sub b (p + gap p + 7) (many b (p + gap p)))) ≠ sub b (p + gap p) 4 then .inl 6
  else .inr (b.getD (p + gap p + 6) 0, sub b (p + gap p + 7) (many b (p + gap p)), p + gap p + 7 + many b (p + gap p))
def goesOn (k : UInt8) : Bool := k == 2 || k == 3
def getF : Nat → List UInt8 → Nat → Bool → List UInt8 → List UInt8 × Nat × Nat
  | 0, _, _, _, _ => ([], 0, 4)
  | f + 1, b, p, begun, r =>
    match step b p begun r.length with
    | .inl e => ([], 0, e)
    | .inr (k, x, n) => if goesOn k then getF f b n true (r ++ x) else (r ++ x, n, 0)
def get (b : List UInt8) (p : Nat) : List UInt8 × Nat × Nat :=
  if allZ (b.drop p) then ([], 0, 7) else getF (b.length + 1) b p false []

theorem getF_inl (f : Nat) (b : List UInt8) (p : Nat) (g : Bool) (r : List UInt8) (e : Nat) (h : step b p g r.length = .inl e) : getF (f + 1) b p g r = ([], 0, e) := by
  unfold getF
  rw [h]
theorem getF_inr (f : Nat) (b : List UInt8) (p : Nat) (g : Bool) (r : List UInt8) (k : UInt8) (x : List UInt8) (n : Nat) (h : step b p g r.length = .inr (k, x, n)) : getF (f + 1) b p g r = if goesOn k then getF f b n true (r ++ x) else (r ++ x, n, 0) := by
  conv => lhs; unfold getF
  rw [h]
theorem many_lt (b : List UInt8) (t : Nat) : many b t < 65536 := by
  unfold many
  have h1 := (b.getD (t + 4) 0).toNat_lt
  have h2 := (b.getD (t + 5) 0).toNat_lt
  omega
theorem getD_drop (b : List UInt8) (i j : Nat) : (b.drop i).getD j 0 = b.getD (i + j) 0 := by simp [List.getD, List.getElem?_drop]
theorem many_drop (b : List UInt8) (t : Nat) : many b t = many (b.drop t) 0 := by simp only [many, getD_drop, Nat.zero_add]
theorem sub_drop (b : List UInt8) (i j n : Nat) : sub b (i + j) n = sub (b.drop i) j n := by simp only [sub, List.drop_drop]
theorem sub_length (b : List UInt8) (i n : Nat) (h : i + n ≤ b.length) : (sub b i n).length = n := by
  unfold sub; rw [List.length_take, List.length_drop]; omega
theorem ofNat_toNat (c : UInt8) : UInt8.ofNat c.toNat = c := by simp
theorem tail3_many (a c k : UInt8) (n : Nat) (h : n = a.toNat + 256 * c.toNat) : tail3 k n = [a, c, k] := by
  have h1 : UInt8.ofNat n = a := by
    apply UInt8.toNat_inj.1
    rw [UInt8.toNat_ofNat']
    have := a.toNat_lt; omega
  have h2 : UInt8.ofNat (n / 256) = c := by
    apply UInt8.toNat_inj.1
    rw [UInt8.toNat_ofNat']
    have := a.toNat_lt; have := c.toNat_lt; omega
  unfold tail3
  rw [h1, h2]
theorem many_tail (k : UInt8) (n : Nat) (hn : n < 65536) : (UInt8.ofNat n).toNat + 256 * (UInt8.ofNat (n / 256)).toNat = n := by
  rw [UInt8.toNat_ofNat', UInt8.toNat_ofNat']
  omega

/-- A text from the place of a head on: what is read off it. -/
theorem read_part (k : UInt8) (x rest : List UInt8) (hn : x.length < 65536) :
    many (part k x ++ rest) 0 = x.length ∧ (part k x ++ rest).getD 6 0 = k ∧ sub (part k x ++ rest) 0 4 = le4 (sumT (tail3 k x.length) x) ∧ sub (part k x ++ rest) 4 3 = tail3 k x.length ∧ sub (part k x ++ rest) 7 x.length = x ∧ 7 + x.length ≤ (part k x ++ rest).length := by
  have e : part k x ++ rest = UInt8.ofNat (sumT (tail3 k x.length) x) :: UInt8.ofNat (sumT (tail3 k x.length) x / 256) :: UInt8.ofNat (sumT (tail3 k x.length) x / 65536) :: UInt8.ofNat (sumT (tail3 k x.length) x / 16777216) :: UInt8.ofNat x.length :: UInt8.ofNat (x.length / 256) :: k :: (x ++ rest) := by
    simp [part, head, le4, tail3]
  refine ⟨?_, ?_, ?_, ?_, ?_, ?_⟩
  · rw [e]; exact many_tail k x.length hn
  · rw [e]; rfl
  · rw [e]; rfl
  · rw [e]; rfl
  · rw [e]; simp [sub]
  · rw [List.length_append, part_length]; omega
theorem allZ_zeros (n : Nat) : allZ (zeros n) = true := by simp [allZ, zeros]
theorem zeros_of_allZ {b : List UInt8} (h : allZ b = true) : b = zeros b.length := by
  induction b with
  | nil => rfl
  | cons c b ih =>
    simp only [allZ, List.all_cons, Bool.and_eq_true, beq_iff_eq] at h
    rw [List.length_cons, zeros, List.replicate_succ, h.1]
    congr 1
    exact ih h.2
/-- A part that stands there is read. -/
theorem step_part {b : List UInt8} {p : Nat} {k : UInt8} {x rest : List UInt8} {begun : Bool} {had : Nat} (hb : b.drop p = zeros (gap p) ++ part k x ++ rest) (hn : x.length < 65536) (hf : fits k x.length begun (room p) had = true) :
    step b p begun had = .inr (k, x, p + gap p + 7 + x.length) := by
  have hd : b.drop (p + gap p) = part k x ++ rest := by
    rw [← List.drop_drop, hb, List.append_assoc, List.drop_append_of_le_length (by rw [zeros_length]; omega), List.drop_of_length_le (by rw [zeros_length]; omega), List.nil_append]
  obtain ⟨h1, h2, h3, h4, h5, h6⟩ := read_part k x rest hn
  have hz : allZ (sub b p (gap p)) = true := by
    have : sub b p (gap p) = zeros (gap p) := by
      unfold sub
      rw [hb, List.append_assoc, List.take_append_of_le_length (by rw [zeros_length]; omega), List.take_of_length_le (by rw [zeros_length]; omega)]
    rw [this, allZ_zeros]
  have hl : (b.drop (p + gap p)).length = b.length - (p + gap p) := List.length_drop
  rw [hd] at hl
  have e1 : many b (p + gap p) = x.length := by rw [many_drop, hd, h1]
  have e2 : b.getD (p + gap p + 6) 0 = k := by rw [← getD_drop, hd, h2]
  have e3 : sub b (p + gap p) 4 = le4 (sumT (tail3 k x.length) x) := by rw [show p + gap p = p + gap p + 0 from rfl, sub_drop, hd, h3]
  have e4 : sub b (p + gap p + 4) 3 = tail3 k x.length := by rw [sub_drop, hd, h4]
  have e5 : sub b (p + gap p + 7) x.length = x := by rw [sub_drop, hd, h5]
  unfold step
  rw [e1, e2, e3, e4, e5, if_neg (by rw [hz]; simp), if_neg (by omega), if_neg (by rw [hf]; simp), if_neg (by omega), if_neg (by simp)]

theorem sub_split (b : List UInt8) (i n : Nat) : b.drop i = sub b i n ++ b.drop (i + n) := by
  unfold sub
  rw [← List.drop_drop, List.take_append_drop]
theorem sub3 (b : List UInt8) (i : Nat) (h : i + 3 ≤ b.length) : sub b i 3 = [b.getD i 0, b.getD (i + 1) 0, b.getD (i + 2) 0] := by
  unfold sub
  rw [List.drop_eq_getElem_cons (i := i) (by omega), List.drop_eq_getElem_cons (i := i + 1) (by omega), List.drop_eq_getElem_cons (i := i + 1 + 1) (by omega)]
  simp only [List.take_succ_cons, List.take_zero, List.getD, List.getElem?_eq_getElem (show i < b.length by omega), List.getElem?_eq_getElem (show i + 1 < b.length by omega), List.getElem?_eq_getElem (show i + 2 < b.length by omega), Option.getD_some]
/-- What is read as a part stands there. -/
theorem part_step {b : List UInt8} {p : Nat} {begun : Bool} {had : Nat} {k : UInt8} {x : List UInt8} {n : Nat} (h : step b p begun had = .inr (k, x, n)) :
    b.drop p = zeros (gap p) ++ part k x ++ b.drop n ∧ n = p + gap p + 7 + x.length ∧ n ≤ b.length ∧ fits k x.length begun (room p) had = true ∧ x.length = many b (p + gap p) := by
  unfold step at h
  split at h
  · cases h
  rename_i h1
  split at h
  · cases h
  rename_i h2
  split at h
  · cases h
  rename_i h3
  split at h
  · cases h
  rename_i h4
  split at h
  · cases h
  rename_i h5
  injection h with h
  injection h with hk h
  injection h with hx hn
  subst hk
  subst hx
  subst hn
  have hl : (sub b (p + gap p + 7) (many b (p + gap p))).length = many b (p + gap p) := sub_length _ _ _ (by omega)
  have hz : sub b p (gap p) = zeros (gap p) := by
    have := zeros_of_allZ (b := sub b p (gap p)) (by simpa using h1)
    rwa [sub_length _ _ _ (by omega)] at this
  have h5 := (Classical.not_not.1 h5).symm
  refine ⟨?_, by rw [hl], by omega, by rw [hl]; simpa using h3, hl⟩
  have e4 : sub b (p + gap p + 4) 3 = tail3 (b.getD (p + gap p + 6) 0) (many b (p + gap p)) := by
    have ht := tail3_many (b.getD (p + gap p + 4) 0) (b.getD (p + gap p + 5) 0) (b.getD (p + gap p + 6) 0) (many b (p + gap p)) rfl
    rw [ht]
    rw [sub3 _ _ (by omega)]
  rw [sub_split b p (gap p), hz, sub_split b (p + gap p) 4, h5, sub_split b (p + gap p + 4) 3, sub_split b (p + gap p + 4 + 3) (many b (p + gap p)), e4]
  simp only [part, head, hl, List.append_assoc]

theorem fits_cases {k : UInt8} {n rm had : Nat} {begun : Bool} (h : fits k n begun rm had = true) :
    (k = 1 ∧ begun = false ∧ n ≤ rm) ∨ (k = 2 ∧ begun = false ∧ n = rm) ∨ (k = 3 ∧ begun = true ∧ n = rm ∧ had + n ≤ 65536) ∨ (k = 4 ∧ begun = true ∧ n ≤ rm ∧ 0 < n ∧ had + n ≤ 65536) := by
  unfold fits at h
  split at h
  · refine .inl ⟨‹_›, ?_⟩; simpa using h
  split at h
  · refine .inr (.inl ⟨‹_›, ?_⟩); simpa using h
  split at h
  · refine .inr (.inr (.inl ⟨‹_›, ?_⟩)); simpa [and_assoc] using h
  split at h
  · refine .inr (.inr (.inr ⟨‹_›, ?_⟩)); simpa [and_assoc] using h
  · cases h
theorem kind_final (g : Bool) : goesOn (kindOf g true) = false ∧ goesOn (kindOf g false) = true := by cases g <;> exact ⟨by decide, by decide⟩
theorem fits_final (g : Bool) (n rm had : Nat) (h : n ≤ rm) (h0 : g = true → 0 < n) (h1 : had + n ≤ 65536) : fits (kindOf g true) n g rm had = true := by
  cases g
  · simp [kindOf, fits, h]
  · have := h0 rfl
    simp [kindOf, fits, h, h1, this]
theorem fits_first (g : Bool) (n had : Nat) (h1 : had + n ≤ 65536) : fits (kindOf g false) n g n had = true := by
  cases g
  · simp [kindOf, fits]
  · simp [kindOf, fits, h1]

theorem putF_pos (f p : Nat) (g : Bool) (r : List UInt8) (h : Enough f p r) : gap p + 7 ≤ (putF f p g r).length := by
  cases f with
  | zero => unfold Enough at h; split at h <;> omega
  | succ f =>
    unfold putF
    split <;> simp only [List.length_append, zeros_length, part_length] <;> omega
/-- What is put is got, whatever stands behind. -/
theorem getF_put (f : Nat) : ∀ (f' p : Nat) (g : Bool) (r acc b rest : List UInt8), Enough f p r → b.length < p + f' → b.drop p = putF f p g r ++ rest → acc.length + r.length ≤ 65536 → (g = true → 0 < r.length) →
    getF f' b p g acc = (acc ++ r, p + (putF f p g r).length, 0) := by
  induction f with
  | zero => intro f' p g r acc b rest h; unfold Enough at h; split at h <;> omega
  | succ f ih =>
    intro f' p g r acc b rest h hf hb hr hg
    have hlen := congrArg List.length hb
    rw [List.length_drop, List.length_append] at hlen
    have hpos := putF_pos (f + 1) p g r h
    cases f' with
    | zero => omega
    | succ f' =>
      unfold putF at hb ⊢
      by_cases hc : r.length ≤ room p
      · rw [if_pos hc] at hb ⊢
        have hs := step_part (begun := g) (had := acc.length) hb (by have := room_le p; omega) (fits_final g _ _ _ hc hg hr)
        unfold getF
        rw [hs]
        simp only [(kind_final g).1]
        simp only [List.length_append, zeros_length, part_length, Bool.false_eq_true, if_false, Prod.mk.injEq, true_and, and_true]
        omega
      · rw [if_neg hc] at hb ⊢
        have hrm : (r.take (room p)).length = room p := by rw [List.length_take]; omega
        have hs := step_part (begun := g) (had := acc.length) (p := p) (k := kindOf g false) (x := r.take (room p)) (rest := putF f (p + gap p + 7 + room p) true (r.drop (room p)) ++ rest) (by rw [hb]; simp only [List.append_assoc]) (by have := room_le p; omega) (by rw [hrm]; exact fits_first g _ _ (by omega))
        rw [hrm] at hs
        have hn : p + gap p + 7 + room p ≤ b.length := by
          have h1 := hlen
          unfold putF at h1
          rw [if_neg hc] at h1
          simp only [List.length_append, zeros_length, part_length, hrm] at h1
          omega
        have hd : b.drop (p + gap p + 7 + room p) = putF f (p + gap p + 7 + room p) true (r.drop (room p)) ++ rest := by
          rw [show p + gap p + 7 + room p = p + (gap p + 7 + room p) by omega, ← List.drop_drop, hb, List.append_assoc, List.drop_append_of_le_length (by simp only [List.length_append, zeros_length, part_length, hrm]; omega), List.drop_of_length_le (by simp only [List.length_append, zeros_length, part_length, hrm]; omega), List.nil_append]
          rw [show p + (gap p + 7 + room p) = p + gap p + 7 + room p by omega]
        have := ih f' (p + gap p + 7 + room p) true (r.drop (room p)) (acc ++ r.take (room p)) b rest (enough_next h (by omega)) (by omega) hd (by rw [List.length_append, hrm, List.length_drop]; omega) (by intro _; rw [List.length_drop]; omega)
        unfold getF
        rw [hs]
        simp only [(kind_final g).2, if_true]
        rw [this, List.append_assoc, List.take_append_drop]
        simp only [List.length_append, zeros_length, part_length, hrm, Prod.mk.injEq, true_and, and_true]
        omega

theorem getF_err (f : Nat) : ∀ (b : List UInt8) (p : Nat) (g : Bool) (acc : List UInt8), (getF f b p g acc).2.2 ≠ 0 → (getF f b p g acc).1 = [] ∧ (getF f b p g acc).2.1 = 0 := by
  induction f with
  | zero => intro b p g acc _; exact ⟨rfl, rfl⟩
  | succ f ih =>
    intro b p g acc h
    unfold getF at h ⊢
    split at h
    · exact ⟨rfl, rfl⟩
    · rename_i k x n he
      split at h
      · rename_i hk
        simp only [hk, if_true] 
        exact ih _ _ _ _ h
      · exact absurd rfl h
/-- What is got stands there as it is put. -/
theorem getF_again (f : Nat) : ∀ (b : List UInt8) (p : Nat) (g : Bool) (acc x : List UInt8) (n : Nat), getF f b p g acc = (x, n, 0) → (g = false → acc = []) →
    ∃ r, x = acc ++ r ∧ (∀ f', Enough f' p r → b.drop p = putF f' p g r ++ b.drop n ∧ n = p + (putF f' p g r).length) ∧ n ≤ b.length ∧ p + 7 ≤ n ∧ x.length ≤ 65536 ∧ (g = true → 0 < r.length) := by
  induction f with
  | zero => intro b p g acc x n h; unfold getF at h; simp at h
  | succ f ih =>
    intro b p g acc x n h hg
    unfold getF at h
    split at h
    · rename_i e he
      injection h with h1 h
      injection h with h2 h
      exfalso
      unfold step at he
      subst h
      repeat' (split at he; · injection he with he; omega)
      cases he
    · rename_i k y m he
      obtain ⟨hb, hm, hml, hf, _⟩ := part_step he
      have hfc := fits_cases hf
      split at h
      · rename_i hk
        obtain ⟨r, hx, hp, hn, hpn, hxl, hr⟩ := ih b m true (acc ++ y) x n h (by simp)
        have hk' : kindOf g false = k ∧ y.length = room p := by
          rcases hfc with ⟨rfl, _, _⟩ | ⟨rfl, rfl, e⟩ | ⟨rfl, rfl, e, _⟩ | ⟨rfl, _, _⟩
          · exact absurd hk (by decide)
          · exact ⟨rfl, e⟩
          · exact ⟨rfl, e⟩
          · exact absurd hk (by decide)
        have hr := hr rfl
        refine ⟨y ++ r, by rw [hx, List.append_assoc], ?_, hn, by omega, hxl, fun _ => by rw [List.length_append]; omega⟩
        intro f' hf'
        cases f' with
        | zero => unfold Enough at hf'; split at hf' <;> omega
        | succ f' =>
          have hne : ¬ (y ++ r).length ≤ room p := by rw [List.length_append]; omega
          have e1 : (y ++ r).take (room p) = y := by rw [← hk'.2, List.take_append_of_le_length (Nat.le_refl _), List.take_of_length_le (Nat.le_refl _)]
          have e2 : (y ++ r).drop (room p) = r := by rw [← hk'.2, List.drop_append_of_le_length (Nat.le_refl _), List.drop_of_length_le (Nat.le_refl _), List.nil_append]
          have hen := enough_next hf' (by omega)
          rw [e2] at hen
          have em : p + gap p + 7 + room p = m := by omega
          rw [em] at hen
          obtain ⟨h1, h2⟩ := hp f' hen
          unfold putF
          rw [if_neg hne, e1, e2, em, hk'.1]
          refine ⟨by rw [hb, h1]; simp only [List.append_assoc], ?_⟩
          simp only [List.length_append, zeros_length, part_length]
          omega
      · rename_i hk
        injection h with hx h
        injection h with hn _
        subst hn
        have hk' : kindOf g true = k ∧ y.length ≤ room p ∧ (g = true → 0 < y.length) ∧ x.length ≤ 65536 := by
          have hrl := room_le p
          rcases hfc with ⟨rfl, rfl, e⟩ | ⟨rfl, _, _⟩ | ⟨rfl, _, _⟩ | ⟨rfl, rfl, e, e2, e3⟩
          · refine ⟨rfl, e, by simp, ?_⟩
            rw [← hx, hg rfl, List.nil_append]
            omega
          · exact absurd (show goesOn 2 = true by decide) hk
          · exact absurd (show goesOn 3 = true by decide) hk
          · refine ⟨rfl, e, fun _ => e2, ?_⟩
            rw [← hx, List.length_append]
            omega
        refine ⟨y, hx.symm, ?_, hml, by omega, hk'.2.2.2, hk'.2.2.1⟩
        intro f' hf'
        cases f' with
        | zero => unfold Enough at hf'; split at hf' <;> omega
        | succ f' =>
          unfold putF
          rw [if_pos hk'.2.1, hk'.1]
          refine ⟨hb, ?_⟩
          simp only [List.length_append, zeros_length, part_length]
          omega

/-! ### the whole -/
theorem putF_some (f p : Nat) (g : Bool) (r rest : List UInt8) (h : Enough f p r) : allZ (putF f p g r ++ rest) = false := by
  cases f with
  | zero => unfold Enough at h; split at h <;> omega
  | succ f =>
    have key : ∀ (k : UInt8) (a x m : List UInt8), k ≠ 0 → allZ (a ++ part k x ++ m) = false := by
      intro k a x m hk
      rw [Bool.eq_false_iff]
      intro h
      unfold allZ at h
      rw [List.all_eq_true] at h
      have := h k (by simp [part, head, tail3])
      exact hk (by simpa using this)
    have hk : kindOf g true ≠ 0 ∧ kindOf g false ≠ 0 := by cases g <;> exact ⟨by decide, by decide⟩
    unfold putF
    split
    · exact key _ _ _ _ hk.1
    · rw [List.append_assoc]; exact key _ _ _ _ hk.2
theorem get_put (p : Nat) (r b rest : List UInt8) (hb : b.drop p = put p r ++ rest) (hr : r.length ≤ 65536) : get b p = (r, p + (put p r).length, 0) := by
  unfold get
  have hz : allZ (b.drop p) = false := by rw [hb]; exact putF_some _ _ _ _ _ (enough_put p r)
  rw [hz, if_neg (by simp)]
  have := getF_put _ (b.length + 1) p false r [] b rest (enough_put p r) (by omega) hb (by simpa using hr) (by simp)
  rw [List.nil_append] at this
  exact this
theorem get_again (b : List UInt8) (p : Nat) (x : List UInt8) (n : Nat) (h : get b p = (x, n, 0)) : b.drop p = put p x ++ b.drop n ∧ n = p + (put p x).length ∧ n ≤ b.length ∧ p + 7 ≤ n ∧ x.length ≤ 65536 := by
  unfold get at h
  split at h
  · simp at h
  · obtain ⟨r, hx, hp, hn, hpn, hxl, _⟩ := getF_again _ b p false [] x n h (fun _ => rfl)
    rw [List.nil_append] at hx
    subst hx
    obtain ⟨h1, h2⟩ := hp _ (enough_put p x)
    exact ⟨h1, h2, hn, hpn, hxl⟩
theorem get_err (b : List UInt8) (p : Nat) (h : (get b p).2.2 ≠ 0) : (get b p).1 = [] ∧ (get b p).2.1 = 0 := by
  unfold get at h ⊢
  split
  · exact ⟨rfl, rfl⟩
  · rename_i hz
    rw [if_neg hz] at h
    exact getF_err _ _ _ _ _ h
theorem get_none (b : List UInt8) (p : Nat) (h : b.length ≤ p) : get b p = ([], 0, 7) := by
  unfold get
  rw [List.drop_of_length_le h]
  rfl
/-- What is got at a place is put there as the same bytes; it needs none of those behind. -/
theorem again_cut (b : List UInt8) (p : Nat) (x : List UInt8) (n : Nat) (h : get b p = (x, n, 0)) : put p x = sub b p (n - p) ∧ get (b.take n) p = (x, n, 0) := by
  obtain ⟨h1, h2, h3, h4, h5⟩ := get_again b p x n h
  have e : put p x = sub b p (n - p) := by
    unfold sub
    rw [h1, List.take_append_of_le_length (by omega), List.take_of_length_le (by omega)]
  refine ⟨e, ?_⟩
  have := get_put p x (b.take n) [] (by rw [List.append_nil, e, List.drop_take, sub]) h5
  rwa [← h2] at this
/-- Bytes that were cut off within a record: it is not got. -/
theorem get_short (b : List UInt8) (p : Nat) (x : List UInt8) (n s : Nat) (h : get b p = (x, n, 0)) (hs : s < n) : (get (b.take s) p).2.2 ≠ 0 := by
  intro h0
  obtain ⟨y, hy⟩ : ∃ y, (get (b.take s) p).1 = y := ⟨_, rfl⟩
  obtain ⟨m, hm⟩ : ∃ m, (get (b.take s) p).2.1 = m := ⟨_, rfl⟩
  have hg : get (b.take s) p = (y, m, 0) := by rw [← hy, ← hm, ← h0]
  obtain ⟨h1, h2, h3, h4, h5⟩ := get_again _ p y m hg
  have hml : m ≤ s := by rw [List.length_take] at h3; omega
  have e : b.drop p = put p y ++ b.drop m := by
    have a1 := (again_cut _ p y m hg).1
    rw [a1, sub, List.drop_take, List.take_take, ← sub, show min (m - p) (s - p) = m - p by omega]
    have := sub_split b p (m - p)
    rwa [show p + (m - p) = m by omega] at this
  have := get_put p y b _ e h5
  rw [h] at this
  injection this with _ this
  injection this with this _
  omega

/-! ### one byte turned -/
theorem feed_inj {x y : Nat} (hx : x < 4294967296) (hy : y < 4294967296) (l : List UInt8) (h : feed x l = feed y l) : x = y := by
  rw [feed_val, feed_val, rep_xor, rep_xor _ y] at h
  have h2 : rep (8 * l.length) x = rep (8 * l.length) y := by
    have := congrArg (· ^^^ rep (8 * l.length) (val l)) h
    simpa [Nat.xor_assoc] using this
  have h3 : rep (8 * l.length) (x ^^^ y) = 0 := by rw [rep_xor, h2, Nat.xor_self]
  exact xor_eq_zero (rep_inj0 _ (Nat.xor_lt_two_pow (n := 32) hx hy) h3)
theorem feed1_inj (x : Nat) (c d : UInt8) (h : feed1 x c = feed1 x d) : c = d := by
  unfold feed1 at h
  rw [rep_xor, rep_xor 8 x d.toNat] at h
  have h2 : rep 8 c.toNat = rep 8 d.toNat := by
    have := congrArg (rep 8 x ^^^ ·) h
    simpa [← Nat.xor_assoc] using this
  have hc := c.toNat_lt
  have hd := d.toNat_lt
  have h3 : rep 8 (c.toNat ^^^ d.toNat) = 0 := by rw [rep_xor, h2, Nat.xor_self]
  exact UInt8.toNat_inj.1 (xor_eq_zero (rep_inj0 8 (Nat.xor_lt_two_pow (n := 32) (by omega) (by omega)) h3))
theorem inv32_inj {a b : Nat} (ha : a < 4294967296) (hb : b < 4294967296) (h : inv32 a = inv32 b) : a = b := by unfold inv32 at h; omega
theorem more_set (m : List UInt8) (i : Nat) (h : i < m.length) (c : UInt8) (he : more 0 (m.set i c) = more 0 m) : m[i] = c := by
  unfold more at he
  have h1 := inv32_inj (feed_lt (inv32_lt 0) _) (feed_lt (inv32_lt 0) _) he
  have e1 : m = m.take i ++ m[i] :: m.drop (i + 1) := by rw [← List.drop_eq_getElem_cons h, List.take_append_drop]
  have e2 : m.set i c = m.take i ++ c :: m.drop (i + 1) := by rw [List.set_eq_take_append_cons_drop, if_pos h]
  rw [e2] at h1
  have h2 : feed (inv32 0) m = feed (inv32 0) (m.take i ++ m[i] :: m.drop (i + 1)) := by rw [← e1]
  rw [h2, feed_append, feed_append, feed_cons, feed_cons] at h1
  have hx := feed_lt (inv32_lt 0) (m.take i)
  exact (feed1_inj _ _ _ (feed_inj (feed1_lt hx _) (feed1_lt hx _) _ h1)).symm
theorem le4_inj {s t : Nat} (hs : s < 4294967296) (ht : t < 4294967296) (h : le4 s = le4 t) : s = t := by
  unfold le4 at h
  injection h with h0 h
  injection h with h1 h
  injection h with h2 h
  injection h with h3 _
  have e0 := congrArg UInt8.toNat h0
  have e1 := congrArg UInt8.toNat h1
  have e2 := congrArg UInt8.toNat h2
  have e3 := congrArg UInt8.toNat h3
  simp only [UInt8.toNat_ofNat'] at e0 e1 e2 e3
  omega
/-- A part's text: the sum of what stands behind it, and that. -/
def sealL (m : List UInt8) : List UInt8 := le4 (more 0 m) ++ m
theorem part_seal (k : UInt8) (x : List UInt8) : part k x = sealL (tail3 k x.length ++ x) := by
  unfold part head sealL sumT
  rw [more_append, List.append_assoc]
theorem seal_set (m m' : List UInt8) (j : Nat) (c : UInt8) (hj : j < (sealL m).length) (h : sealL m' = (sealL m).set j c) : (sealL m)[j] = c := by
  unfold sealL at h hj ⊢
  by_cases h4 : j < 4
  · rw [List.set_append_left _ _ (by rw [le4_length]; exact h4)] at h
    obtain ⟨h1, rfl⟩ := List.append_inj h (by simp [le4_length])
    rw [List.getElem_append_left (by rw [le4_length]; exact h4)]
    have e : (le4 (more 0 m'))[j]? = ((le4 (more 0 m')).set j c)[j]? := by rw [← h1]
    rw [List.getElem?_set_self (by rw [le4_length]; exact h4), List.getElem?_eq_getElem (by rw [le4_length]; exact h4)] at e
    exact Option.some.inj e
  · rw [List.set_append_right _ _ (by rw [le4_length]; omega), le4_length] at h
    obtain ⟨h1, h2⟩ := List.append_inj h (by simp [le4_length])
    have h3 := le4_inj (more_lt _ _) (more_lt _ _) h1
    rw [List.length_append, le4_length] at hj
    rw [h2] at h3
    rw [List.getElem_append_right (by rw [le4_length]; omega)]
    exact more_set m (j - 4) (by omega) c h3
theorem part_inj {k k' : UInt8} {x x' : List UInt8} (h : part k x = part k' x') : k = k' ∧ x = x' := by
  unfold part head at h
  rw [List.append_assoc, List.append_assoc] at h
  obtain ⟨_, h⟩ := List.append_inj h (by simp [le4_length])
  obtain ⟨h1, h2⟩ := List.append_inj h (by simp [tail3])
  unfold tail3 at h1
  injection h1 with _ h1
  injection h1 with _ h1
  injection h1 with h1 _
  exact ⟨h1, h2⟩
/-- No byte that is turned is one of the two that tell how many a head has. -/
def PlaceOk (p q : Nat) : Prop :=
  (q < 256 * ((p + gap p) / 256 + 1) → q ≠ p + gap p + 4 ∧ q ≠ p + gap p + 5) ∧ (256 * ((p + gap p) / 256 + 1) ≤ q → q % 256 ≠ 4 ∧ q % 256 ≠ 5)
theorem step_ne0 (b : List UInt8) (p : Nat) (g : Bool) (had : Nat) : step b p g had ≠ .inl 0 := by
  intro h
  unfold step at h
  repeat' (split at h; · injection h with h; omega)
  cases h
theorem getD_set_ne (b : List UInt8) (q i : Nat) (c : UInt8) (h : q ≠ i) : (b.set q c).getD i 0 = b.getD i 0 := by
  simp [List.getD, List.getElem?_set_ne h]
theorem many_part (b : List UInt8) (t : Nat) (k : UInt8) (x rest : List UInt8) (h : b.drop t = part k x ++ rest) (hx : x.length < 65536) : many b t = x.length := by
  rw [many_drop, h]
  exact (read_part k x rest hx).1
theorem getF_turn (f : Nat) : ∀ (f' p : Nat) (g : Bool) (r acc b rest : List UInt8) (q : Nat) (c : UInt8), Enough f p r → b.drop p = putF f p g r ++ rest → p ≤ q → q < p + (putF f p g r).length → PlaceOk p q → b.getD q 0 ≠ c →
    (getF f' (b.set q c) p g acc).2.2 ≠ 0 := by
  induction f with
  | zero => intro f' p g r acc b rest q c h; unfold Enough at h; split at h <;> omega
  | succ f ih =>
    intro f' p g r acc b rest q c h hb hpq hq hpl hc
    obtain ⟨k, y, m, hk, hyl, hput⟩ : ∃ (k : UInt8) (y m : List UInt8), (putF (f + 1) p g r = zeros (gap p) ++ part k y ++ m) ∧ y.length ≤ room p ∧
        (m = [] ∨ (k = kindOf g false ∧ y.length = room p ∧ room p < r.length ∧ m = putF f (p + gap p + 7 + room p) true (r.drop (room p)))) := by
      by_cases hr : r.length ≤ room p
      · rw [putF_le f p g r hr]; exact ⟨_, r, [], by rw [List.append_nil], hr, .inl rfl⟩
      · rw [putF_gt f p g r (by omega)]; exact ⟨_, _, _, rfl, by rw [List.length_take]; omega, .inr ⟨rfl, by rw [List.length_take]; omega, by omega, rfl⟩⟩
    rw [hk] at hb hq
    have hlb := congrArg List.length hb
    simp only [List.length_drop, List.length_append, zeros_length, part_length] at hlb hq
    have hd : b.drop (p + gap p) = part k y ++ (m ++ rest) := by
      rw [← List.drop_drop, hb, List.append_assoc, List.append_assoc, List.drop_append_of_le_length (by rw [zeros_length]; omega), List.drop_of_length_le (by rw [zeros_length]; omega), List.nil_append]
    have hrl := room_le p
    have hmany := many_part b _ k y _ hd (by omega)
    cases f' with
    | zero => unfold getF; simp
    | succ f' =>
      unfold getF
      split
      · rename_i e he
        intro h0
        simp only at h0
        rw [h0] at he
        exact step_ne0 _ _ _ _ he
      · rename_i k' x' n' he
        obtain ⟨hb', hn', hnl', _, hx'⟩ := part_step he
        have hqb : q < b.length := by omega
        have hcq : (b.set q c).getD q 0 = c := by simp [List.getD, hqb]
        by_cases h1 : q < p + gap p
        · exfalso
          have e1 : (b.set q c).getD q 0 = 0 := by
            rw [show q = p + (q - p) by omega, ← getD_drop (b.set (p + (q - p)) c), show p + (q - p) = q by omega, hb', List.append_assoc]
            simp only [List.getD, List.getElem?_append_left (show q - p < (zeros (gap p)).length by rw [zeros_length]; omega)]
            simp [zeros, show q - p < gap p by omega]
          have e2 : b.getD q 0 = 0 := by
            rw [show q = p + (q - p) by omega, ← getD_drop b, hb, List.append_assoc, List.append_assoc]
            simp only [List.getD, List.getElem?_append_left (show q - p < (zeros (gap p)).length by rw [zeros_length]; omega)]
            simp [zeros, show q - p < gap p by omega]
          rw [e2] at hc
          rw [hcq] at e1
          exact hc e1.symm
        · have hd' : (b.set q c).drop (p + gap p) = part k' x' ++ (b.set q c).drop n' := by
            rw [← List.drop_drop, hb', List.append_assoc, List.drop_append_of_le_length (by rw [zeros_length]; omega), List.drop_of_length_le (by rw [zeros_length]; omega), List.nil_append]
          have hset : (b.set q c).drop (p + gap p) = (b.drop (p + gap p)).set (q - (p + gap p)) c := by
            rw [List.drop_set, if_neg (by omega)]
          have hg2 := geo p
          have hm' : x'.length = y.length := by
            rw [hx', ← hmany]
            unfold many
            rcases Nat.lt_or_ge q (256 * ((p + gap p) / 256 + 1)) with h2 | h2
            · have h3 := hpl.1 h2
              rw [getD_set_ne _ _ _ _ h3.1, getD_set_ne _ _ _ _ h3.2]
            · rw [getD_set_ne _ _ _ _ (by omega), getD_set_ne _ _ _ _ (by omega)]
          by_cases h2 : q < p + gap p + 7 + y.length
          · exfalso
            have hj : q - (p + gap p) < (part k y).length := by rw [part_length]; omega
            rw [hset, hd, List.set_append_left _ _ hj] at hd'
            obtain ⟨h3, _⟩ := List.append_inj hd'.symm (by rw [List.length_set, part_length, part_length, hm'])
            rw [part_seal, part_seal] at h3
            have hj' := hj
            rw [part_seal] at hj'
            have h4 := seal_set _ _ _ c hj' h3
            apply hc
            rw [show q = (p + gap p) + (q - (p + gap p)) by omega, ← getD_drop b, hd, List.getD, List.getElem?_append_left hj, part_seal, List.getElem?_eq_getElem hj', h4]
            rfl
          · have hj : ¬ q - (p + gap p) < (part k y).length := by rw [part_length]; omega
            rw [hset, hd, List.set_append_right _ _ (by omega)] at hd'
            obtain ⟨h3, _⟩ := List.append_inj hd'.symm (by rw [part_length, part_length, hm'])
            obtain ⟨rfl, rfl⟩ := part_inj h3
            rcases hput with rfl | ⟨rfl, hyr, hrr, hm⟩
            · simp only [List.length_nil] at hq; omega
            · rw [if_pos (kind_final g).2]
              rw [hm] at hb hq
              have hn2 : n' = p + gap p + 7 + room p := by omega
              rw [hn2]
              refine ih f' _ true (r.drop (room p)) _ b rest q c (enough_next h hrr) ?_ (by omega) (by omega) ?_ hc
              · rw [show p + gap p + 7 + room p = p + (gap p + 7 + room p) by omega, ← List.drop_drop, hb, List.append_assoc, List.drop_append_of_le_length (by simp only [List.length_append, zeros_length, part_length]; omega), List.drop_of_length_le (by simp only [List.length_append, zeros_length, part_length]; omega), List.nil_append]
                rw [show p + (gap p + 7 + room p) = p + gap p + 7 + room p by omega]
              · have hg0 : gap (p + gap p + 7 + room p) = 0 := (room_zero _ hg2.2.2).2
                unfold PlaceOk
                rw [hg0]
                have h5 := hpl.2 (by omega)
                exact ⟨fun _ => by omega, fun _ => h5⟩
theorem get_turn (p : Nat) (r b rest : List UInt8) (q : Nat) (c : UInt8) (hb : b.drop p = put p r ++ rest) (hpq : p ≤ q) (hq : q < p + (put p r).length) (hpl : PlaceOk p q) (hc : b.getD q 0 ≠ c) :
    (get (b.set q c) p).2.2 ≠ 0 := by
  unfold get
  split
  · simp
  · exact getF_turn _ _ _ _ _ _ _ _ _ _ (enough_put p r) hb hpq hq hpl hc

/-! ### how long -/
theorem putF_len (f : Nat) : ∀ (p : Nat) (g : Bool) (r : List UInt8), Enough f p r →
    (putF f p g r).length = gap p + r.length + 7 * ((p + (putF f p g r).length - 1) / 256 - (p + gap p) / 256 + 1) := by
  induction f with
  | zero => intro p g r h; unfold Enough at h; split at h <;> omega
  | succ f ih =>
    intro p g r h
    have hg := geo p
    unfold putF
    by_cases hr : r.length ≤ room p
    · rw [if_pos hr]
      simp only [List.length_append, zeros_length, part_length]
      omega
    · rw [if_neg hr]
      have h2 := ih (p + gap p + 7 + room p) true (r.drop (room p)) (enough_next h (by omega))
      have h3 := putF_pos f _ true _ (enough_next h (by omega))
      have hg0 : gap (p + gap p + 7 + room p) = 0 := (room_zero _ hg.2.2).2
      rw [hg0] at h2 h3
      simp only [List.length_append, zeros_length, part_length, List.length_take, List.length_drop] at h2 h3 ⊢
      generalize (putF f (p + gap p + 7 + room p) true (r.drop (room p))).length = L at *
      rw [Nat.min_eq_left (by omega)]
      rw [show p + (gap p + (7 + room p) + L) - 1 = p + gap p + 7 + room p + L - 1 by omega]
      omega
theorem put_len (p : Nat) (r : List UInt8) : (put p r).length = gap p + r.length + 7 * ((p + (put p r).length - 1) / 256 - (p + gap p) / 256 + 1) := putF_len _ _ _ _ (enough_put p r)
/-- A record's bytes begin with the noughts of the gap. -/
theorem put_gap (p : Nat) (r : List UInt8) (i : Nat) (h : i < gap p) : (put p r).getD i 0 = 0 ∧ i < (put p r).length := by
  have h0 := putF_pos _ p false r (enough_put p r)
  refine ⟨?_, by unfold put; omega⟩
  unfold put putF
  split <;> simp [List.getD, List.getElem?_append_left, zeros_length, h, zeros]
theorem put_length_le (p : Nat) (r : List UInt8) : (put p r).length ≤ 20 * r.length + 26 := by
  have := putF_length_le (r.length + 2) p false r
  unfold put
  split at this <;> omega
theorem put_pos (p : Nat) (r : List UInt8) : gap p + 7 ≤ (put p r).length := putF_pos _ p false r (enough_put p r)
end Herb.Fr
