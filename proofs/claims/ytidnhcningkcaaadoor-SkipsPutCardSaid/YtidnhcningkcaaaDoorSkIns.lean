/- Skip lists: a key more: the plain law. No program. -/
import Derived.Test.YtidnhcningkcaaaDoorSkLaw
set_option linter.unusedSimpArgs false
set_option linter.unusedVariables false
namespace Herb
open Go
theorem rep0 (n f : Nat) : (List.replicate n (0 : Nat)).getD f 0 = 0 := by
  simp only [List.getD, List.getElem?_replicate]
  split <;> rfl
theorem nxOf_out {N : List Nd} {f i : Nat} (h : N.length ≤ i) : nxOf N f i = 0 := by
  unfold nxOf
  have : N.getD i Nd.zero = Nd.zero := by simp [List.getD, List.getElem?_eq_none h]
  rw [this]
  exact rep0 8 f
/-- The first k floors' last ones ahead are laid. -/
def stepN (N : List Nd) (T : Nat → Nat) (p : Nat) : Nat → List Nd
  | 0 => N
  | k + 1 => setNx (stepN N T p k) (T k) k p
/-- What the new node's first k floors are. -/
def newNx (N : List Nd) (T : Nat → Nat) : Nat → List Nat
  | 0 => List.replicate 8 0
  | k + 1 => (newNx N T k).set k (nxOf N k (T k))
theorem stepN_length (N : List Nd) (T : Nat → Nat) (p : Nat) : ∀ k, (stepN N T p k).length = N.length
  | 0 => rfl
  | k + 1 => by rw [stepN, setNx_length, stepN_length N T p k]
theorem newNx_length (N : List Nd) (T : Nat → Nat) : ∀ k, (newNx N T k).length = 8
  | 0 => rfl
  | k + 1 => by rw [newNx, List.length_set, newNx_length N T k]
theorem stepN_ok {N : List Nd} (h8 : Ok8 N) (T : Nat → Nat) (p : Nat) : ∀ k, Ok8 (stepN N T p k)
  | 0 => h8
  | k + 1 => (stepN_ok h8 T p k).set _ _ _
section
variable {N : List Nd} {T : Nat → Nat} {p : Nat} (hT : ∀ f, T f < N.length)
include hT
theorem stepN_key (k i : Nat) : keyOf (stepN N T p k) i = keyOf N i := by
  induction k with
  | zero => rfl
  | succ k ih => rw [stepN, keyOf_setNx (by rw [stepN_length]; exact hT k), ih]
theorem stepN_num (k i : Nat) : numOf (stepN N T p k) i = numOf N i := by
  induction k with
  | zero => rfl
  | succ k ih => rw [stepN, numOf_setNx (by rw [stepN_length]; exact hT k), ih]
theorem stepN_nx (h8 : Ok8 N) (k : Nat) (hk : k ≤ 8) (f i : Nat) : nxOf (stepN N T p k) f i = if f < k ∧ i = T f then p else nxOf N f i := by
  induction k with
  | zero => simp [stepN]
  | succ k ih =>
    rw [stepN, nxOf_setNx (stepN_ok h8 T p k) (by rw [stepN_length]; exact hT k) (by omega), ih (by omega)]
    by_cases h1 : f = k
    · subst h1
      by_cases h2 : i = T f
      · simp [h2]
      · simp [h2]
    · by_cases h2 : i = T f
      · by_cases h3 : f < k
        · rw [if_neg (by omega), if_pos ⟨h3, h2⟩, if_pos ⟨by omega, h2⟩]
        · rw [if_neg (by omega), if_neg (by omega), if_neg (by omega)]
      · rw [if_neg (by omega), if_neg (fun e => h2 e.2), if_neg (fun e => h2 e.2)]
end
theorem newNx_get (N : List Nd) (T : Nat → Nat) (k : Nat) (hk : k ≤ 8) (f : Nat) (hf : f < 8) : (newNx N T k).getD f 0 = if f < k then nxOf N f (T f) else 0 := by
  induction k with
  | zero =>
    rw [if_neg (by omega)]
    exact rep0 8 f
  | succ k ih =>
    rw [newNx]
    simp only [List.getD, List.getElem?_set]
    have hl := newNx_length N T k
    by_cases h1 : k = f
    · subst h1
      simp [hl, hf]
    · rw [if_neg h1]
      have := ih (by omega)
      simp only [List.getD] at this
      rw [this]
      by_cases h2 : f < k
      · rw [if_pos h2, if_pos (by omega)]
      · rw [if_neg h2, if_neg (by omega)]
/-- All nodes behind a key more. -/
def insN (N : List Nd) (T : Nat → Nat) (H : Nat) (d : Nd) : List Nd := stepN N T N.length H ++ [{ d with nx := newNx N T H }]
section
variable {N : List Nd} {T : Nat → Nat} {H : Nat} {d : Nd}
theorem getD_app_lt {M : List Nd} {x : Nd} {i : Nat} (h : i < M.length) : (M ++ [x]).getD i Nd.zero = M.getD i Nd.zero := by
  simp [List.getD, List.getElem?_append_left h]
theorem getD_app_eq {M : List Nd} {x : Nd} : (M ++ [x]).getD M.length Nd.zero = x := by simp [List.getD]
theorem insN_key (hT : ∀ f, T f < N.length) {i : Nat} (hi : i < N.length) : keyOf (insN N T H d) i = keyOf N i := by
  have := stepN_key (p := N.length) hT H i
  unfold keyOf at *
  unfold insN
  rw [getD_app_lt (by rw [stepN_length]; exact hi), this]
theorem insN_num (hT : ∀ f, T f < N.length) {i : Nat} (hi : i < N.length) : numOf (insN N T H d) i = numOf N i := by
  have := stepN_num (p := N.length) hT H i
  unfold numOf at *
  unfold insN
  rw [getD_app_lt (by rw [stepN_length]; exact hi), this]
theorem insN_last : (insN N T H d).getD N.length Nd.zero = { d with nx := newNx N T H } := by
  unfold insN
  have := getD_app_eq (M := stepN N T N.length H) (x := { d with nx := newNx N T H })
  rwa [stepN_length] at this
theorem insN_nx (hT : ∀ f, T f < N.length) (h8 : Ok8 N) (hH : H ≤ 8) {i f : Nat} (hi : i < N.length) : nxOf (insN N T H d) f i = if f < H ∧ i = T f then N.length else nxOf N f i := by
  rw [← stepN_nx hT h8 H hH f i]
  unfold nxOf insN
  rw [getD_app_lt (by rw [stepN_length]; exact hi)]
theorem insN_nx_last (hH : H ≤ 8) {f : Nat} (hf : f < 8) : nxOf (insN N T H d) f N.length = if f < H then nxOf N f (T f) else 0 := by
  unfold nxOf
  rw [insN_last]
  exact newNx_get N T H hH f hf
theorem insN_length : (insN N T H d).length = N.length + 1 := by unfold insN; rw [List.length_append, stepN_length]; rfl
end
/-- The order behind a key more. -/
def insL (N : List Nd) (L : List Nat) (K : List UInt8) : List Nat := aheadL N L K ++ N.length :: restL N L K
theorem Inv.top_lt {N : List Nd} {L : List Nat} {h : Nat → Nat} (I : Inv N L h) (K : List UInt8) (f : Nat) : topOf N L h K f < N.length := by
  unfold topOf
  rw [List.getLastD_eq_getLast?]
  rcases hg : (onFloor h f (aheadL N L K)).getLast? with _ | a
  · have := I.len; simp; omega
  · have hm := List.mem_of_getLast? hg
    unfold onFloor at hm
    exact (I.lt a (ahead_mem (List.mem_filter.1 hm).1)).2
theorem Inv.ins {N : List Nd} {L : List Nat} {h : Nat → Nat} (I : Inv N L h) (K : List UInt8) (H : Nat) (hH1 : 1 ≤ H) (hH8 : H ≤ 8) (d : Nd) (hd : d.key = K) (hnew : ∀ i ∈ restL N L K, keyOf N i ≠ K) :
    Inv (insN N (topOf N L h K) H d) (insL N L K) (fun i => if i = N.length then H else h i) := by
  have hT := I.top_lt K
  have hltL : ∀ i ∈ L, i < N.length := fun i hi => (I.lt i hi).2
  have hnotA : N.length ∉ aheadL N L K := fun e => absurd (hltL _ (ahead_mem e)) (Nat.lt_irrefl _)
  have hnotB : N.length ∉ restL N L K := fun e => absurd (hltL _ (rest_mem e)) (Nat.lt_irrefl _)
  have hnd : (aheadL N L K ++ restL N L K).Nodup := by rw [ahead_rest]; exact I.nodup
  have hri : (aheadL N L K ++ restL N L K).Pairwise (fun i j => less (keyOf N i) (keyOf N j) = true) := by rw [ahead_rest]; exact I.rise
  have hmem : ∀ i, i ∈ insL N L K → i = N.length ∨ i ∈ L := by
    intro i hi
    unfold insL at hi
    rcases List.mem_append.1 hi with h1 | h1
    · exact .inr (ahead_mem h1)
    · rcases List.mem_cons.1 h1 with h2 | h2
      · exact .inl h2
      · exact .inr (rest_mem h2)
  have hkn : keyOf (insN N (topOf N L h K) H d) N.length = K := by
    unfold keyOf
    rw [insN_last]
    exact hd
  refine ⟨?_, ?_, ?_, ?_, ?_, ?_, ?_⟩
  · intro x hx
    unfold insN at hx
    rcases List.mem_append.1 hx with h1 | h1
    · exact stepN_ok I.ok8 _ _ _ x h1
    · rw [List.mem_singleton.1 h1]; exact newNx_length _ _ _
  · unfold insL
    rw [List.nodup_append] at hnd ⊢
    refine ⟨hnd.1, List.nodup_cons.2 ⟨hnotB, hnd.2.1⟩, ?_⟩
    intro a ha b hb
    rcases List.mem_cons.1 hb with rfl | h2
    · exact fun e => hnotA (e ▸ ha)
    · exact hnd.2.2 a ha b h2
  · intro i hi
    rw [insN_length]
    have h0 := I.len
    rcases hmem i hi with rfl | h1
    · omega
    · have := I.lt i h1; omega
  · rw [insN_length, ← I.len, ← ahead_rest N L K]
    unfold insL
    rw [ahead_rest]
    simp only [List.length_append, List.length_cons]
    have := congrArg List.length (ahead_rest N L K)
    rw [List.length_append] at this
    omega
  · unfold insL
    have hk : ∀ i ∈ L, keyOf (insN N (topOf N L h K) H d) i = keyOf N i := fun i hi => insN_key hT (hltL i hi)
    rw [List.pairwise_append] at hri ⊢
    refine ⟨hri.1.imp_of_mem (fun {a b} ha hb hab => by rw [hk a (ahead_mem ha), hk b (ahead_mem hb)]; exact hab), List.pairwise_cons.2 ⟨?_, hri.2.1.imp_of_mem (fun {a b} ha hb hab => by rw [hk a (rest_mem ha), hk b (rest_mem hb)]; exact hab)⟩, ?_⟩
    · intro i hi
      rw [hkn, hk i (rest_mem hi)]
      have h1 := I.rest_not K hi
      have h2 := hnew i hi
      rcases h3 : less K (keyOf N i) with _ | _
      · exact absurd (less_total h1 h3) h2
      · rfl
    · intro a ha b hb
      rw [hk a (ahead_mem ha)]
      rcases List.mem_cons.1 hb with rfl | h2
      · rw [hkn]; exact ahead_less ha
      · rw [hk b (rest_mem h2)]; exact hri.2.2 a ha b h2
  · intro f hf
    have hch := I.floor K f hf
    have hfl : ∀ l : List Nat, (∀ i ∈ l, i < N.length) → l.filter (fun i => decide (f < if i = N.length then H else h i)) = onFloor h f l := by
      intro l hl
      unfold onFloor
      apply List.filter_congr
      intro i hi
      have := hl i hi
      rw [if_neg (by omega)]
    have hAl : ∀ i ∈ aheadL N L K, i < N.length := fun i hi => hltL i (ahead_mem hi)
    have hBl : ∀ i ∈ restL N L K, i < N.length := fun i hi => hltL i (rest_mem hi)
    have hfA : ∀ i ∈ onFloor h f (aheadL N L K), i ∈ aheadL N L K := fun i hi => (List.mem_filter.1 hi).1
    have hfB : ∀ i ∈ onFloor h f (restL N L K), i ∈ restL N L K := fun i hi => (List.mem_filter.1 hi).1
    have hne : N.length ≠ 0 := by have := I.len; omega
    unfold insL
    rw [List.filter_append, List.filter_cons, hfl _ hAl, hfl _ hBl, if_pos rfl]
    by_cases hfH : f < H
    · rw [if_pos (by simpa using hfH)]
      obtain ⟨X, hX⟩ := split_last (onFloor h f (aheadL N L K))
      rw [← List.cons_append, hX, List.append_assoc]
      rw [hX, List.append_assoc] at hch
      have hnd0 : (0 :: (onFloor h f (aheadL N L K) ++ onFloor h f (restL N L K))).Nodup := by
        rw [List.nodup_cons]
        refine ⟨fun e => ?_, ?_⟩
        · rcases List.mem_append.1 e with e | e
          · have := I.lt 0 (ahead_mem (hfA 0 e)); omega
          · have := I.lt 0 (rest_mem (hfB 0 e)); omega
        · unfold onFloor
          rw [← List.filter_append]
          exact hnd.filter _
      rw [← List.cons_append, hX, List.append_assoc] at hnd0
      have hXlt : ∀ x ∈ X, x < N.length := by
        intro x hx
        have : x ∈ 0 :: onFloor h f (aheadL N L K) := by rw [hX]; exact List.mem_append_left _ hx
        rcases List.mem_cons.1 this with rfl | h2
        · omega
        · exact hAl x (hfA x h2)
      rw [List.nodup_append] at hnd0
      obtain ⟨_, n2, n3⟩ := hnd0
      rw [List.singleton_append, List.nodup_cons] at n2
      refine Chain.ins (nx := nxOf N f) ?_ ?_ ?_ hch (fun e => n3 _ e _ (by simp) rfl) (fun e => absurd (hXlt _ e) (Nat.lt_irrefl _)) n2.1 (fun e => absurd (hBl _ (hfB _ e)) (Nat.lt_irrefl _))
      · show nxOf _ f (topOf N L h K f) = _
        rw [insN_nx hT I.ok8 hH8 (hT f), if_pos ⟨hfH, rfl⟩]
      · rw [insN_nx_last hH8 hf, if_pos hfH]
        exact Chain.mid hch
      · intro i hia hip
        rcases Nat.lt_or_ge i N.length with hi | hi
        · rw [insN_nx hT I.ok8 hH8 hi, if_neg (fun e => hia e.2)]
        · have e1 : nxOf N f i = 0 := nxOf_out hi
          have e2 : nxOf (insN N (topOf N L h K) H d) f i = 0 := nxOf_out (by rw [insN_length]; omega)
          rw [e1, e2]
    · rw [if_neg (by simpa using hfH)]
      refine Chain.congr hch ?_
      intro i hi
      have hil : i < N.length := by
        rcases List.mem_cons.1 hi with rfl | hi
        · omega
        · rcases List.mem_append.1 hi with h1 | h1
          · exact hAl i (hfA i h1)
          · exact hBl i (hfB i h1)
      rw [insN_nx hT I.ok8 hH8 hil, if_neg (fun e => hfH e.1)]
  · intro i hi
    show 0 < if i = N.length then H else h i
    rcases hmem i hi with rfl | h1
    · rw [if_pos rfl]; omega
    · have := hltL i h1
      rw [if_neg (by omega)]
      exact I.high i h1
/-! ### what is told -/
def toldL (N : List Nd) (L : List Nat) : List (List UInt8 × Int) := L.map fun i => (keyOf N i, numOf N i)
def insM (M : List (List UInt8 × Int)) (K : List UInt8) (n : Int) : List (List UInt8 × Int) := M.takeWhile (fun x => less x.1 K) ++ (K, n) :: M.dropWhile (fun x => less x.1 K)
def fromM (M : List (List UInt8 × Int)) (K : List UInt8) : List (List UInt8 × Int) := M.dropWhile (fun x => less x.1 K)
def hasM (M : List (List UInt8 × Int)) (K : List UInt8) : Bool := M.any (fun x => x.1 == K)
theorem toldL_ahead (N : List Nd) (L : List Nat) (K : List UInt8) : toldL N (aheadL N L K) = (toldL N L).takeWhile (fun x => less x.1 K) := by
  unfold toldL aheadL
  rw [List.takeWhile_map]
  rfl
theorem toldL_rest (N : List Nd) (L : List Nat) (K : List UInt8) : toldL N (restL N L K) = fromM (toldL N L) K := by
  unfold toldL restL fromM
  rw [List.dropWhile_map]
  rfl
theorem toldL_ins {N : List Nd} {L : List Nat} {h : Nat → Nat} (I : Inv N L h) (K : List UInt8) (H : Nat) (d : Nd) (hd : d.key = K) :
    toldL (insN N (topOf N L h K) H d) (insL N L K) = insM (toldL N L) K d.n := by
  have hT := I.top_lt K
  have hs : ∀ l : List Nat, (∀ i ∈ l, i ∈ L) → toldL (insN N (topOf N L h K) H d) l = toldL N l := by
    intro l hl
    unfold toldL
    apply List.map_congr_left
    intro i hi
    have := (I.lt i (hl i hi)).2
    rw [insN_key hT this, insN_num hT this]
  have e : toldL (insN N (topOf N L h K) H d) (insL N L K) = toldL (insN N (topOf N L h K) H d) (aheadL N L K) ++ (K, d.n) :: toldL (insN N (topOf N L h K) H d) (restL N L K) := by
    unfold insL toldL
    rw [List.map_append, List.map_cons]
    congr 2
    unfold keyOf numOf
    rw [insN_last, hd]
  rw [e, hs _ (fun i hi => ahead_mem hi), hs _ (fun i hi => rest_mem hi), toldL_ahead, toldL_rest]
  rfl
/-- A key is there just if it is the first one that does not stand ahead. -/
theorem hasM_head {N : List Nd} {L : List Nat} {h : Nat → Nat} (I : Inv N L h) (K : List UInt8) : hasM (toldL N L) K = ((restL N L K).head?.map (fun i => keyOf N i == K)).getD false := by
  have hA : (toldL N (aheadL N L K)).any (fun x => x.1 == K) = false := by
    rw [Bool.eq_false_iff]
    intro hh
    rw [List.any_eq_true] at hh
    obtain ⟨x, hx, he⟩ := hh
    unfold toldL at hx
    rw [List.mem_map] at hx
    obtain ⟨i, hi, rfl⟩ := hx
    have h1 := ahead_less hi
    have h2 : keyOf N i = K := by simpa using he
    rw [h2, less_irrefl] at h1
    cases h1
  have e : toldL N L = toldL N (aheadL N L K) ++ toldL N (restL N L K) := by
    unfold toldL
    rw [← List.map_append, ahead_rest]
  unfold hasM
  rw [e, List.any_append, hA, Bool.false_or]
  have hri : (aheadL N L K ++ restL N L K).Pairwise (fun i j => less (keyOf N i) (keyOf N j) = true) := by rw [ahead_rest]; exact I.rise
  have hr2 := (List.pairwise_append.1 hri).2.1
  have hno := fun i hi => I.rest_not K (i := i) hi
  generalize restL N L K = R at *
  cases R with
  | nil => rfl
  | cons b R =>
    simp only [toldL, List.map_cons, List.any_cons, List.head?_cons, Option.map_some, Option.getD_some]
    have : ((R.map fun i => (keyOf N i, numOf N i)).any fun x => x.1 == K) = false := by
      rw [Bool.eq_false_iff]
      intro hh
      rw [List.any_eq_true] at hh
      obtain ⟨x, hx, he⟩ := hh
      rw [List.mem_map] at hx
      obtain ⟨i, hi, rfl⟩ := hx
      have h2 : keyOf N i = K := by simpa using he
      have h3 := (List.pairwise_cons.1 hr2).1 i hi
      rw [h2, hno b (by simp)] at h3
      cases h3
    rw [this, Bool.or_false]
end Herb
