/- Mems: the document's answer, plain, and that a mem's state is it. -/
import Derived.Test.YtdifdbkbpeanhaaDoorMemPlain
set_option linter.unusedSimpArgs false
set_option linter.unusedVariables false
namespace Herb
open Go Go.RowKit
/-- In which order two facts stand. -/
def cmpT (f g : Ft) : Int := cmpF f.k g.k f.va g.va f.se g.se f.ki g.ki
theorem cmpT_ord {f g : Ft} (hf : f.fit) (hg : g.fit) : ordL (keyF f) (keyF g) = cmpT f g :=
  ordL_put f.k g.k hf.1 hg.1 hf.2.1 hg.2.1 hf.2.2.2 hg.2.2.2
/-- How many facts stand ahead of one. -/
def atT (L : List Ft) (f : Ft) : Nat := (L.takeWhile (fun x => decide (cmpT x f < 0))).length
theorem atT_le (L : List Ft) (f : Ft) : atT L f ≤ L.length := (List.takeWhile_sublist _).length_le
theorem take_atT (L : List Ft) (f : Ft) : L.take (atT L f) = L.takeWhile (fun x => decide (cmpT x f < 0)) := by
  have h : L.takeWhile (fun x => decide (cmpT x f < 0)) ++ L.dropWhile (fun x => decide (cmpT x f < 0)) = L := List.takeWhile_append_dropWhile
  have h2 := congrArg (List.take (atT L f)) h
  rw [← h2]
  exact List.take_left' rfl
theorem drop_atT (L : List Ft) (f : Ft) : L.drop (atT L f) = L.dropWhile (fun x => decide (cmpT x f < 0)) := by
  have h : L.takeWhile (fun x => decide (cmpT x f < 0)) ++ L.dropWhile (fun x => decide (cmpT x f < 0)) = L := List.takeWhile_append_dropWhile
  have h2 := congrArg (List.drop (atT L f)) h
  rw [← h2]
  exact List.drop_left' rfl
theorem atT_uniq : ∀ (L : List Ft) (f : Ft) (a : Nat), a ≤ L.length → (∀ j (h : j < L.length), j < a → cmpT L[j] f < 0) → (∀ h : a < L.length, ¬ cmpT L[a] f < 0) → atT L f = a
  | [], f, a, h, _, _ => by
    have : a = 0 := by simpa using h
    subst this
    rfl
  | x :: L, f, 0, _, _, h2 => by
    have := h2 (by simp)
    simp only [List.getElem_cons_zero] at this
    unfold atT
    rw [List.takeWhile_cons_of_neg (by simpa using this)]
    rfl
  | x :: L, f, a + 1, h, h1, h2 => by
    have hx := h1 0 (by simp) (by omega)
    simp only [List.getElem_cons_zero] at hx
    have ih := atT_uniq L f a (by simpa using h) (fun j hj hja => by
      have := h1 (j + 1) (by simpa using hj) (by omega)
      simpa using this) (fun hh => by
      have := h2 (by simpa using hh)
      simpa using this)
    unfold atT at ih ⊢
    rw [List.takeWhile_cons_of_pos (by simpa using hx), List.length_cons, ih]
/-- The document's Put: what is answered, and the list behind it. -/
def thereT (L : List Ft) (f : Ft) : Bool := match L[atT L f]? with | some x => cmpT x f == 0 | none => false
def refPutL (L : List Ft) (f : Ft) (H : Int) : Int × List Ft :=
  if mayB f.k f.se f.ki = false then (1, L) else if H < 1 ∨ 8 < H then (1, L) else if thereT L f = true then (8, L) else (0, L.take (atT L f) ++ f :: L.drop (atT L f))
/-- How many bytes facts have. -/
def sizesT (L : List Ft) : Nat := (L.map (fun f => (keyF f).length + f.v.size)).sum
theorem sizesT_append (a b : List Ft) : sizesT (a ++ b) = sizesT a + sizesT b := by simp [sizesT]
theorem sizesT_cons (x : Ft) (a : List Ft) : sizesT (x :: a) = (keyF x).length + x.v.size + sizesT a := by simp [sizesT]
/-- What the document tells from a key and a time on. -/
def fromT (L : List Ft) (key : ByteArray) (va : Nat) : List Ft := L.filter (fun f => less key.toList f.k.toList || (decide (f.k = key) && decide (f.va ≤ va)))
theorem less_ord {a b : List UInt8} : less a b = true ↔ ordL a b < 0 := by
  constructor
  · intro h; rw [ordL_lt h]; decide
  · intro h
    unfold ordL at h
    split at h
    · assumption
    · split at h <;> simp at h
theorem MOk.lessT {s : MSt} {n : Nat} (ok : MOk s n) {f : Ft} (hf : f.fit) {x : List UInt8 × Int} (hx : x ∈ s.M) : less x.1 (keyF f) = decide (cmpT (s.fs.getD x.2.toNat Ft.zero) f < 0) := by
  obtain ⟨h1, h2⟩ := ok.told hx
  have hg := (ok.fit _ h2).1
  rw [← h1, ← cmpT_ord hg hf]
  by_cases h : ordL (keyF (s.fs.getD x.2.toNat Ft.zero)) (keyF f) < 0
  · rw [decide_eq_true h]; exact less_ord.2 h
  · rw [decide_eq_false h]
    cases hl : less (keyF (s.fs.getD x.2.toNat Ft.zero)) (keyF f)
    · rfl
    · exact absurd (less_ord.1 hl) h
theorem takeWhile_placed (fs : List Ft) (p : List UInt8 × Int → Bool) (q : Ft → Bool) : ∀ (M : List (List UInt8 × Int)), (∀ x ∈ M, p x = q (fs.getD x.2.toNat Ft.zero)) → placed fs (M.takeWhile p) = (placed fs M).takeWhile q
  | [], _ => rfl
  | x :: M, h => by
    have hx := h x (by simp)
    have ih := takeWhile_placed fs p q M (fun y hy => h y (by simp [hy]))
    have e : placed fs (x :: M) = fs.getD x.2.toNat Ft.zero :: placed fs M := rfl
    rw [e]
    cases hp : p x
    · rw [List.takeWhile_cons_of_neg (by simp [hp]), List.takeWhile_cons_of_neg (by rw [← hx, hp]; simp)]
      rfl
    · rw [List.takeWhile_cons_of_pos hp, List.takeWhile_cons_of_pos (by rw [← hx, hp]), ← ih]
      rfl
theorem dropWhile_placed (fs : List Ft) (p : List UInt8 × Int → Bool) (q : Ft → Bool) : ∀ (M : List (List UInt8 × Int)), (∀ x ∈ M, p x = q (fs.getD x.2.toNat Ft.zero)) → placed fs (M.dropWhile p) = (placed fs M).dropWhile q
  | [], _ => rfl
  | x :: M, h => by
    have hx := h x (by simp)
    have ih := dropWhile_placed fs p q M (fun y hy => h y (by simp [hy]))
    have e : placed fs (x :: M) = fs.getD x.2.toNat Ft.zero :: placed fs M := rfl
    rw [e]
    cases hp : p x
    · rw [List.dropWhile_cons_of_neg (by simp [hp]), List.dropWhile_cons_of_neg (by rw [← hx, hp]; simp), e]
    · rw [List.dropWhile_cons_of_pos hp, List.dropWhile_cons_of_pos (by rw [← hx, hp]), ← ih]
theorem placed_more {fs gs : List Ft} {M : List (List UInt8 × Int)} (h : ∀ x ∈ M, x.2.toNat < fs.length) : placed (fs ++ gs) M = placed fs M := by
  unfold placed
  apply List.map_congr_left
  intro x hx
  rw [List.getD_eq_getElem?_getD, List.getD_eq_getElem?_getD, List.getElem?_append_left (h x hx)]
theorem MOk.inRange {s : MSt} {n : Nat} (ok : MOk s n) : ∀ x ∈ s.M, x.2.toNat < s.fs.length := by
  intro x hx
  obtain ⟨i, f, hf, h1, h2⟩ := ok.at_ x hx
  rw [h1, Int.toNat_natCast]
  exact (List.getElem?_eq_some_iff.1 hf).1
theorem MOk.there {s : MSt} {n : Nat} (ok : MOk s n) {f : Ft} (hf : f.fit) : thereT (placed s.fs s.M) f = hasM s.M (keyF f) := by
  have hd := dropWhile_placed s.fs (fun x => less x.1 (keyF f)) (fun x => decide (cmpT x f < 0)) s.M (fun x hx => ok.lessT hf hx)
  have hdr := drop_atT (placed s.fs s.M) f
  rw [← hd] at hdr
  have hget : (placed s.fs s.M)[atT (placed s.fs s.M) f]? = (placed s.fs (s.M.dropWhile (fun x => less x.1 (keyF f))))[0]? := by
    rw [← hdr, List.getElem?_drop]
    rfl
  unfold thereT
  rw [hget]
  obtain ⟨T, hT, hTl⟩ := from_split s.M (keyF f)
  have hQl := dropWhile_not ok.rises (K := keyF f)
  have hr := ok.rises
  have hmem : ∀ x ∈ fromM s.M (keyF f), x ∈ s.M := fun x hx => fromM_mem hx
  have hfold : s.M.dropWhile (fun x => less x.1 (keyF f)) = fromM s.M (keyF f) := rfl
  rw [hfold]
  have hhas : hasM s.M (keyF f) = hasM (fromM s.M (keyF f)) (keyF f) := by
    have hTn : hasM T (keyF f) = false := by
      unfold hasM
      rw [List.any_eq_false]
      intro x hx h
      have := hTl x hx
      rw [(by simpa using h : x.1 = keyF f), less_irrefl] at this
      cases this
    have h1 : hasM s.M (keyF f) = hasM (T ++ fromM s.M (keyF f)) (keyF f) := congrArg (hasM · (keyF f)) hT
    rw [h1]
    unfold hasM at hTn ⊢
    rw [List.any_append, hTn, Bool.false_or]
  rw [hhas]
  have hrise : Rises (fromM s.M (keyF f)) := List.Pairwise.sublist (List.dropWhile_sublist _) hr
  revert hmem hQl hrise
  generalize fromM s.M (keyF f) = Q
  intro hQl hmem hrise
  match Q, hmem, hQl, hrise with
  | [], _, _, _ => rfl
  | x :: Q, hmem, hQl, hrise =>
    have hx := hmem x (by simp)
    obtain ⟨h1, h2⟩ := ok.told hx
    have hg := (ok.fit _ h2).1
    have hc := cmpT_ord hg hf
    rw [h1] at hc
    have e : (placed s.fs (x :: Q))[0]? = some (s.fs.getD x.2.toNat Ft.zero) := rfl
    rw [e]
    show (cmpT (s.fs.getD x.2.toNat Ft.zero) f == 0) = _
    rw [← hc]
    by_cases hk : x.1 = keyF f
    · rw [hk, ordL_self]
      unfold hasM
      rw [List.any_cons]
      simp [hk]
    · have hn : ordL x.1 (keyF f) ≠ 0 := by
        intro h0
        unfold ordL at h0
        split at h0
        · cases h0
        · split at h0
          · cases h0
          · rename_i ha hb
            exact hk (less_total (by simpa using ha) (by simpa using hb))
      have hl : less (keyF f) x.1 = true := by
        cases h : less (keyF f) x.1
        · exact absurd (less_total (hQl x (by simp)) h) hk
        · rfl
      have hno : hasM (x :: Q) (keyF f) = false := by
        unfold hasM
        rw [List.any_eq_false]
        intro y hy hyk
        have hyk' : y.1 = keyF f := by simpa using hyk
        rcases List.mem_cons.1 hy with rfl | hy
        · exact hk hyk'
        · have := (List.pairwise_cons.1 hrise).1 y hy
          rw [hyk', less_asymm hl] at this
          cases this
      rw [hno]
      simpa using hn
/-- A put of a mem's is the document's. -/
theorem MOk.refPut {s : MSt} {n : Nat} (ok : MOk s n) {f : Ft} (hf : f.fit) (H : Int) (hb : s.b = (sizesT (placed s.fs s.M) : Int)) :
    refPutL (placed s.fs s.M) f H = ((stepM s f H).1, placed (stepM s f H).2.fs (stepM s f H).2.M) ∧ (stepM s f H).2.b = (sizesT (placed (stepM s f H).2.fs (stepM s f H).2.M) : Int) := by
  unfold refPutL stepM
  rw [ok.there hf]
  by_cases h1 : mayB f.k f.se f.ki = false
  · rw [if_pos h1, if_pos h1]
    exact ⟨rfl, hb⟩
  · rw [if_neg h1, if_neg h1]
    by_cases h2 : H < 1 ∨ 8 < H
    · rw [if_pos h2, if_pos h2]
      exact ⟨rfl, hb⟩
    · rw [if_neg h2, if_neg h2]
      by_cases h3 : hasM s.M (keyF f) = true
      · rw [if_pos h3, if_pos h3]
        exact ⟨rfl, hb⟩
      · rw [if_neg h3, if_neg h3]
        have ht := takeWhile_placed s.fs (fun x => less x.1 (keyF f)) (fun x => decide (cmpT x f < 0)) s.M (fun x hx => ok.lessT hf hx)
        have hd := dropWhile_placed s.fs (fun x => less x.1 (keyF f)) (fun x => decide (cmpT x f < 0)) s.M (fun x hx => ok.lessT hf hx)
        have e : placed (s.fs ++ [f]) (insM s.M (keyF f) s.fs.length) = (placed s.fs s.M).take (atT (placed s.fs s.M) f) ++ f :: (placed s.fs s.M).drop (atT (placed s.fs s.M) f) := by
          rw [take_atT, drop_atT, ← ht, ← hd]
          unfold insM
          rw [placed_append]
          have e1 : ∀ l : List (List UInt8 × Int), placed (s.fs ++ [f]) ((keyF f, (s.fs.length : Int)) :: l) = f :: placed (s.fs ++ [f]) l := by
            intro l
            have : (s.fs ++ [f]).getD ((s.fs.length : Int)).toNat Ft.zero = f := by
              rw [Int.toNat_natCast, List.getD_eq_getElem?_getD]
              simp
            unfold placed
            rw [List.map_cons]
            show (s.fs ++ [f]).getD ((s.fs.length : Int)).toNat Ft.zero :: _ = _
            rw [this]
          rw [e1, placed_more, placed_more]
          · intro x hx
            exact ok.inRange x ((List.dropWhile_sublist _).subset hx)
          · intro x hx
            exact ok.inRange x ((List.takeWhile_sublist _).subset hx)
        refine ⟨by rw [← e], ?_⟩
        show s.b + _ = _
        rw [e, hb, sizesT_append, sizesT_cons]
        have h := sizesT_append ((placed s.fs s.M).take (atT (placed s.fs s.M) f)) ((placed s.fs s.M).drop (atT (placed s.fs s.M) f))
        rw [List.take_append_drop] at h
        rw [h]
        omega
theorem filter_all_neg {p : Ft → Bool} : ∀ {l : List Ft}, (∀ x ∈ l, p x = false) → l.filter p = []
  | [], _ => rfl
  | x :: l, h => by
    rw [List.filter_cons_of_neg (by rw [h x (by simp)]; simp), filter_all_neg (fun y hy => h y (by simp [hy]))]
theorem filter_all_pos {p : Ft → Bool} : ∀ {l : List Ft}, (∀ x ∈ l, p x = true) → l.filter p = l
  | [], _ => rfl
  | x :: l, h => by
    rw [List.filter_cons_of_pos (h x (by simp)), filter_all_pos (fun y hy => h y (by simp [hy]))]
theorem MOk.fromT {s : MSt} {n : Nat} (ok : MOk s n) (key : ByteArray) {va : Nat} (hva : va < 4294967296) : Herb.fromT (placed s.fs s.M) key va = placed s.fs (fromM s.M (seekL key va)) := by
  obtain ⟨T, hT, hTl⟩ := from_split s.M (seekL key va)
  have hQl := dropWhile_not ok.rises (K := seekL key va)
  have key1 : ∀ x ∈ s.M, (less key.toList (s.fs.getD x.2.toNat Ft.zero).k.toList || (decide ((s.fs.getD x.2.toNat Ft.zero).k = key) && decide ((s.fs.getD x.2.toNat Ft.zero).va ≤ va))) = !less x.1 (seekL key va) := by
    intro x hx
    obtain ⟨h1, h2⟩ := ok.told hx
    have hg := (ok.fit _ h2).1
    have hi := ahead_iff _ hg key hva
    rw [h1] at hi
    generalize s.fs.getD x.2.toNat Ft.zero = f at hi hg
    cases hl : less x.1 (seekL key va)
    · have hn : ¬ (less f.k.toList key.toList = true ∨ f.k = key ∧ va < f.va) := by rw [← hi, hl]; simp
      rcases str_tri f.k key with h | h | h
      · exact absurd (.inl h) hn
      · have : ¬ va < f.va := fun h' => hn (.inr ⟨h, h'⟩)
        rw [decide_eq_true h, decide_eq_true (by omega : f.va ≤ va)]
        simp
      · rw [h]; rfl
    · rcases hi.1 hl with h | ⟨h, h'⟩
      · rw [less_asymm h]
        have : f.k ≠ key := by rintro rfl; rw [less_irrefl] at h; cases h
        rw [decide_eq_false this]
        rfl
      · rw [h, less_irrefl, decide_eq_false (by omega : ¬ f.va ≤ va)]
        simp
  unfold Herb.fromT
  have hpl : placed s.fs s.M = placed s.fs T ++ placed s.fs (fromM s.M (seekL key va)) := by rw [← placed_append, ← hT]
  rw [hpl, List.filter_append, filter_all_neg, filter_all_pos, List.nil_append]
  · intro y hy
    obtain ⟨x, hx, rfl⟩ := List.mem_map.1 hy
    rw [key1 x (fromM_mem hx), hQl x hx]
    rfl
  · intro y hy
    obtain ⟨x, hx, rfl⟩ := List.mem_map.1 hy
    rw [key1 x (by rw [hT]; simp [hx]), hTl x hx]
    rfl
end Herb
