/- The walks of container/heap's Fix, Pop and Push at lists that wait, and of take. -/
import Derived.Test.YtnlmchbigpjamaaJnHeap
import Derived.Test.YtnlmchbigpjamaaBlkOps
set_option linter.unusedSimpArgs false
set_option linter.unusedVariables false
namespace Herb
open Go Go.RowKit
/-- Where a cut begins, at elements of z cells. -/
def cutZ (z : Nat) (A : Option Addr) (c k : Nat) : Option Addr := if c = k then A else A.map (·.add (k * z))
theorem run_cutZ {P : Program} {t e : TypeId} {z : Nat} (ht : P.underlying t = some (.slice e)) (hs : (P.info? e).map (·.size) = some z) (A : Option Addr) (n c k : Nat) (hk : k ≤ n) (W : World) :
    (Instr.slice t (.slice A n c) (some (.int .i64 (k : Int))) none none).run P W = .ok (.slice (cutZ z A c k) (n - k) (c - k)) W := by
  obtain ⟨i, hi, hz⟩ : ∃ i, P.info? e = some i ∧ i.size = z := by
    cases h : P.info? e with
    | none => simp [h] at hs
    | some i => exact ⟨i, rfl, by simpa [h] using hs⟩
  unfold Instr.slice cutZ
  simp [run_underlying ht, Go.sizeOf, typeInfo, hi, hz, Instr.sliceBounds, Instr.sliceBound, asIntOf, hk]
end Herb
namespace Go.Proofs.Ytnlmchbigpjamaa
open Go Go.RowKit Herb Herb.Jn
theorem Up.of_heap {l : List En} {n : Nat} (h : IsHeap l n) : Up l 0 n := ⟨fun k h0 hk _ => h k h0 hk, fun k _ _ _ h => absurd h (by omega)⟩
set_option maxRecDepth 100000 in
set_option maxHeartbeats 1600000 in
theorem fix_any (w : World) (q g c : Nat) (l : List En) (n : Nat) (hn : l.length = n) (hH : HpAt w q g c l) (hn63 : n ≤ 1000000) (h0 : 0 < n) (hf : ∀ k, k < n → (at_ l k).fs ≠ []) (hD : Dn l 0 n) :
    Calls Try.prog 34 #[hpV q, .int .i64 0] w fun e w' => (∃ v, e = .returned v) ∧ ∃ l', l'.Perm l ∧ IsHeap l' n ∧ HpAt w' q g c l' ∧ KeepBut (fun b => b = g) w w' := by
  have hb := hH.box
  rw [hn] at hb
  have ml := m_len hb 202
  have pd := down_any w q g c l n hn hH hn63 n (Nat.le_refl _) hf hD
  replace pd := Lib.hid pd
  replace hf := Lib.hid hf
  replace hn := Lib.hid hn
  go_enter Try.func34, Try.ntmps34
  go_wp2_with fail
  refine (len_any w g c n).mono ?_
  rintro _ _ ⟨rfl, rfl⟩
  go_wp2_with fail
  refine pd.out.mono ?_
  rintro _ w2 ⟨⟨b, rfl⟩, l2, p2, z2, _, h2, k2⟩
  cases b with
  | true =>
    go_wp2
    go_end0
    exact ⟨⟨_, rfl⟩, l2, p2, z2, h2, k2⟩
  | false =>
    have hl2 : l2.length = n := p2.length_eq.trans hn.out
    have hf2 : ∀ k, k < n → (at_ l2 k).fs ≠ [] := fun k hk => by
      have hm : at_ l2 k ∈ l := by rw [at_get (by omega)]; exact p2.subset (List.getElem_mem _)
      obtain ⟨i, hi, he⟩ := List.mem_iff_getElem.1 hm
      have := hf.out i (by rw [← hn.out]; exact hi)
      rw [at_get hi, he] at this
      exact this
    have pu := up_any w2 q g c l2 n hl2 h2 hn63 hf2 0 h0 (Up.of_heap z2)
    replace pu := Lib.hid pu
    replace hl2 := Lib.hid hl2
    clear hf2
    go_wp2_with fail
    refine pu.out.mono ?_
    rintro _ w3 ⟨⟨v, rfl⟩, l3, p3, z3, h3, k3⟩
    go_wp2
    go_end0
    exact ⟨⟨_, rfl⟩, l3, p3.trans p2, z3, h3, k2.trans k3⟩
set_option maxRecDepth 100000 in
set_option maxHeartbeats 1600000 in
theorem hpop_any (w : World) (q g c : Nat) (l : List En) (n : Nat) (hn : l.length = n + 1) (hH : HpAt w q g c l) (hn63 : n ≤ 100000) (hf : ∀ k, 0 < k → k < n + 1 → (at_ l k).fs ≠ []) (hD : Dn l 0 (n + 1)) :
    Calls Try.prog 35 #[hpV q] w fun e w' => (∃ v, e = .returned v) ∧ ∃ l', (l' ++ [at_ l 0]).Perm l ∧ IsHeap l' n ∧ HpAt w' q g c l' ∧ KeepBut (fun b => b = q ∨ b = g) w w' := by
  have hb := hH.box
  rw [hn] at hb
  have ml := m_len hb 202
  have ms := m_swap hb 202
  have ps := swap_any w q g c l (n + 1) hn hH 0 n (by omega) (by omega) (by omega)
  obtain ⟨l1, hl1⟩ : ∃ l1, sw l 0 n = l1 := ⟨_, rfl⟩
  have hlen1 : l1.length = n + 1 := by rw [← hl1, sw_len, hn]
  have e1 : ∀ k, at_ l1 k = if k = n then at_ l 0 else if k = 0 then at_ l n else at_ l k := fun k => by rw [← hl1]; exact sw_at (by omega) (by omega) k
  have p1 : l1.Perm l := by rw [← hl1]; exact sw_perm (by omega) (by omega)
  have hD1 : Dn l1 0 n := ⟨fun k h0 hk hp => by
    have := par_lt h0
    rw [e1, e1, if_neg (by omega), if_neg hp, if_neg (by omega), if_neg (by omega)]
    exact hD.one k h0 (by omega) hp, fun _ _ _ _ h => absurd h (by omega)⟩
  have hf1 : ∀ k, k < n → (at_ l1 k).fs ≠ [] := fun k hk => by
    rw [e1, if_neg (by omega)]
    split
    · exact hf n (by omega) (by omega)
    · exact hf k (by omega) (by omega)
  rw [hl1] at ps
  replace ps := Lib.hid ps
  replace hf1 := Lib.hid hf1
  replace e1 := Lib.hid e1
  replace hl1 := Lib.hid hl1
  replace hlen1 := Lib.hid hlen1
  replace hn := Lib.hid hn
  clear hf hD
  go_enter Try.func35, Try.ntmps35
  go_wp2_with fail
  refine (len_any w g c (n + 1)).mono ?_
  rintro _ _ ⟨rfl, rfl⟩
  go_wp2_with fail
  refine ps.out.mono ?_
  rintro _ w2 ⟨⟨v, rfl⟩, h2, k2⟩
  have pd := down_any w2 q g c l1 (n + 1) hlen1.out h2 (by omega) n (by omega) hf1.out hD1
  replace pd := Lib.hid pd
  go_wp2_with fail
  refine pd.out.mono ?_
  rintro _ w3 ⟨⟨b, rfl⟩, l3, p3, z3, s3, h3, k3⟩
  have hlen3 : l3.length = n + 1 := p3.length_eq.trans hlen1.out
  have el : at_ l3 n = at_ l 0 := by rw [s3 n (Nat.le_refl _), e1.out n, if_pos rfl]
  obtain ⟨l4, hl4, h4⟩ : ∃ l4, l4.length = n ∧ l3 = l4 ++ [at_ l 0] := by
    have hne : l3 ≠ [] := fun e => by rw [e] at hlen3; cases hlen3
    refine ⟨l3.dropLast, by simp [hlen3], ?_⟩
    have h1 := List.dropLast_concat_getLast hne
    rw [List.getLast_eq_getElem] at h1
    rw [at_get (by omega)] at el
    simp only [hlen3, Nat.add_sub_cancel] at h1
    rw [el] at h1
    exact h1.symm
  subst h4
  have pp := pop_any w3 q g c l4 (at_ l 0) n hl4 h3 (by omega)
  replace pp := Lib.hid pp
  replace hlen3 := Lib.hid hlen3
  replace el := Lib.hid el
  replace hl4 := Lib.hid hl4
  replace s3 := Lib.hid s3
  go_wp2_with fail
  refine pp.out.mono ?_
  rintro _ w4 ⟨⟨v4, rfl⟩, h4, k4⟩
  go_wp2
  go_ret
  refine ⟨⟨_, rfl⟩, l4, p3.trans p1, ?_, h4, ((k2.trans k3).weak (fun k _ e => .inr e)).trans (k4.weak (fun k _ e => .inl e))⟩
  exact (z3.mono (Nat.le_refl _)).congr (fun k hk => by rw [at_get (by rw [hl4.out]; exact hk), at_get (by simp; have := hl4.out; omega)]; exact (List.getElem_append_left _).symm)
theorem at_app {l : List En} {e : En} {k : Nat} (h : k < l.length) : at_ (l ++ [e]) k = at_ l k := by
  rw [at_get h, at_get (by simp; omega)]
  exact List.getElem_append_left _
set_option maxRecDepth 100000 in
set_option maxHeartbeats 1600000 in
theorem hpush_any (w : World) (base q : Nat) (l : List En) (hH : HpO w base q l) (hbase : base ≤ w.heap.size) (hl : l.length ≤ 100000) (hz : IsHeap l l.length) (hf : ∀ k, k < l.length → (at_ l k).fs ≠ []) (e : En) (he : FtAt w e.A e.fs) (hne : e.fs ≠ []) (hec : e.fs.length ≤ e.c) :
    Calls Try.prog 23 #[hpV q, .iface 61 (.agg #[.slice e.A e.fs.length e.c, .int .i64 (e.pl : Int)])] w fun e' w' => (∃ v, e' = .returned v) ∧ (∃ l', l'.Perm (l ++ [e]) ∧ IsHeap l' l'.length ∧ HpO w' base q l') ∧ Below base w w' := by
  have pp := push_any w base q l hH hbase e he hec hl
  obtain ⟨n, hn⟩ : ∃ n, l.length = n := ⟨_, rfl⟩
  rw [hn] at hz hf hl
  have hU : Up (l ++ [e]) n (n + 1) := ⟨fun k h0 hk hkn => by
    have := par_lt h0
    rw [at_app (by omega), at_app (by omega)]
    exact hz k h0 (by omega), fun k h0 hk hp _ => by have := par_lt h0; omega⟩
  have hf2 : ∀ k, k < n + 1 → (at_ (l ++ [e]) k).fs ≠ [] := fun k hk => by
    by_cases h : k = n
    · rw [at_get (by simp; omega), List.getElem_append_right (by omega)]
      simpa [h, hn] using hne
    · rw [at_app (by omega)]
      exact hf k (by omega)
  have hlen : (l ++ [e]).length = n + 1 := by simp [hn]
  have hbq := hH.bq
  replace hn := Lib.hid hn
  replace pp := Lib.hid pp
  replace hf2 := Lib.hid hf2
  replace hlen := Lib.hid hlen
  clear hf hz hne
  go_enter Try.func23, Try.ntmps23
  go_wp2_with fail
  refine pp.out.mono ?_
  rintro _ w2 ⟨⟨v, rfl⟩, h2, b2⟩
  rcases h2.at_ with ⟨h0, _⟩ | ⟨g, c, hg, hc, h3⟩
  · simp at h0
  have hb := h3.box
  rw [hlen.out] at hb
  have ml := m_len hb 202
  have pu := up_any w2 q g c (l ++ [e]) (n + 1) hlen.out h3 (by omega) hf2.out n (by omega) hU
  have hsub : ((n : Int) + 1 - 1) = (n : Int) := by omega
  replace pu := Lib.hid pu
  go_wp2_with fail
  refine (len_any w2 g c (n + 1)).mono ?_
  rintro _ _ ⟨rfl, rfl⟩
  go_wp2_with fail
  refine pu.out.mono ?_
  rintro _ w4 ⟨⟨v4, rfl⟩, l4, p4, z4, h4, k4⟩
  go_wp2
  go_end0
  have hl4 : l4.length = n + 1 := p4.length_eq.trans hlen.out
  exact ⟨⟨_, rfl⟩, ⟨l4, p4, by rw [hl4]; exact z4, ⟨hbq, .inr ⟨g, c, hg, hc, h4⟩⟩⟩, b2.trans (k4.below (Nat.le_trans hbase b2.size) (fun k e => by rw [e]; exact hg))⟩
/-- The facts of one element are others; its place stands. -/
theorem HpAt.put1 {w : World} {q g c : Nat} {l : List En} (h : HpAt w q g c l) {k : Nat} (hk : k < l.length) (e : En) (hp : e.pl = (at_ l k).pl) (he : (e.fs = [] ∨ FtAt w e.A e.fs) ∧ e.fs.length ≤ e.c) :
    HpAt (w.setCell ⟨g, k * 2, none⟩ (.slice e.A e.fs.length e.c)) q g c (l.set k e) := by
  obtain ⟨cs, h1, h2, h3⟩ := h.row
  have hcap := h.cap
  have hne : q ≠ g := h.box.ne_ h1 (by decide)
  have hkp := KeepBut.set_at w g (k * 2) (.slice e.A e.fs.length e.c)
  have hty : ∀ b cs' fr, w.heap[b]? = some (.cells cs' 44 fr) → ¬ (b = g) := by
    rintro b cs' fr hb rfl
    have h1' : w.heap[b]? = _ := h1
    rw [h1'] at hb
    injection hb with hb
    injection hb with _ ht
    exact absurd ht (by decide)
  refine ⟨by rw [List.length_set]; exact h.box.far hne _, ⟨_, h1.store _ _, by simp [h2], fun j x hj => ?_⟩, by rw [List.length_set]; exact hcap, fun x hx => ?_⟩
  · rw [List.getElem?_set] at hj
    by_cases hjk : k = j
    · subst hjk
      rw [if_pos rfl, if_pos hk] at hj
      cases hj
      refine ⟨?_, ?_⟩
      · rw [Array.getElem?_setIfInBounds_self_of_lt (by omega)]
      · rw [Array.getElem?_setIfInBounds_ne (by omega), hp, at_get hk]
        exact (h3 k _ (List.getElem?_eq_getElem hk)).2
    · rw [if_neg hjk] at hj
      have := h3 j x hj
      rw [Array.getElem?_setIfInBounds_ne (by omega), Array.getElem?_setIfInBounds_ne (by omega)]
      exact this
  · have he' : (e.fs = [] ∨ FtAt (w.setCell ⟨g, k * 2, none⟩ (.slice e.A e.fs.length e.c)) e.A e.fs) ∧ e.fs.length ≤ e.c := ⟨he.1.imp id (fun f => f.keep hkp hty), he.2⟩
    rcases List.mem_or_eq_of_mem_set hx with hm | rfl
    · exact ⟨(h.fts x hm).1.imp id (fun f => f.keep hkp hty), (h.fts x hm).2⟩
    · exact he'
/-- The first one, its first fact taken. -/
def adv (e : En) : En := ⟨cutZ 6 e.A e.c 1, e.fs.tail, e.c - 1, e.pl⟩
theorem set0_at {l : List En} {e : En} (h : 0 < l.length) (k : Nat) : at_ (l.set 0 e) k = if k = 0 then e else at_ l k := by
  unfold at_
  simp only [List.getD_eq_getElem?_getD, List.getElem?_set]
  by_cases h1 : k = 0
  · subst h1
    simp [h]
  · rw [if_neg (fun e => h1 e.symm), if_neg h1]
theorem set0_perm {l : List En} {e : En} (h : 0 < l.length) : l.set 0 e = e :: l.drop 1 := by
  cases l with
  | nil => simp at h
  | cons x l => simp
/-- What is left of a heap behind a take. -/
def rest (l : List En) : List En := (if (at_ l 0).fs.tail = [] then [] else [adv (at_ l 0)]) ++ l.drop 1
theorem fact_sz {k v : ByteArray} {va se li ki : Int} : (Try.prog.info? 44).map (·.size) = some (#[.string k, .int .u32 va, .int .u64 se, .int .u64 li, .int .u8 ki, .string v] : Array Value).size := by kernel_rfl
theorem fact_one (k v : ByteArray) (va se li ki : Int) : (#[.string k, .int .u32 va, .int .u64 se, .int .u64 li, .int .u8 ki, .string v] : Array Value).all (·.oneCell') = true := by simp [Value.oneCell']
theorem take_fin {w w3 : World} {q g c : Nat} {l : List En} {X : List En} {cs : Array Value} (hty : ∀ b cs' fr, w.heap[b]? = some (.cells cs' 44 fr) → ¬ (b = q ∨ b = g)) (h : HpAt w3 q g c l) (hR : w.heap.size ≠ q ∧ w.heap.size ≠ g) (hk : KeepBut (fun b => b = q ∨ b = g) w w3) (hf : ∀ e ∈ l, e.fs = [] ∨ FtAt w e.A e.fs) (hp : l.Perm X) (hz : IsHeap l l.length) :
    (∃ l', l'.Perm X ∧ IsHeap l' l'.length ∧ HpAt (w3.setRow w.heap.size cs) q g c l') ∧ KeepBut (fun b => b = q ∨ b = g) w (w3.setRow w.heap.size cs) := by
  obtain ⟨rs, r1, r2, r3⟩ := h.row
  have hk2 : KeepBut (fun b => b = q ∨ b = g) w (w3.setRow w.heap.size cs) := ⟨hk.os, hk.tape, hk.output, by simpa using hk.size, fun k hlt hn => (setRow_other w3 w.heap.size k cs (by omega)).trans (hk.block k hlt hn)⟩
  exact ⟨⟨l, hp, hz, h.box.setRow_far (fun e => hR.1 e.symm) cs, ⟨rs, r1.setRow_far (fun e => hR.2 e.symm) cs, r2, r3⟩, h.cap, fun e he => ⟨(hf e he).imp id (fun f => f.keep hk2 hty), (h.fts e he).2⟩⟩, hk2⟩
set_option maxRecDepth 100000 in
set_option maxHeartbeats 3200000 in
theorem take_any (w : World) (q g c : Nat) (l : List En) (n : Nat) (hn : l.length = n + 1) (hH : HpAt w q g c l) (hn63 : n ≤ 100000) (hz : IsHeap l (n + 1)) (hf : ∀ k, k < n + 1 → (at_ l k).fs ≠ []) :
    Calls Try.prog 24 #[.pointer (some ⟨q, 0, none⟩)] w fun e w' => e = .returned (at_ l 0).hd.val ∧
      (∃ l', l'.Perm (rest l) ∧ IsHeap l' l'.length ∧ HpAt w' q g c l') ∧ KeepBut (fun b => b = q ∨ b = g) w w' := by
  obtain ⟨w0, hw0⟩ : ∃ w0, w.alloc (.cells #[.string ⟨#[]⟩, .int .u32 0, .int .u64 0, .int .u64 0, .int .u8 0, .string ⟨#[]⟩] 44) = w0 := ⟨_, rfl⟩
  have b0 : Below w.heap.size w w0 := by rw [← hw0]; exact (Below.refl _ _).alloc (Nat.le_refl _) _
  have kR0 : Blk w0 w.heap.size 44 #[.string ⟨#[]⟩, .int .u32 0, .int .u64 0, .int .u64 0, .int .u8 0, .string ⟨#[]⟩] := by rw [← hw0]; exact Blk.new w _ _
  have H0 := hH.below b0
  obtain ⟨c0, _⟩ := H0.cells (k := 0) (by omega)
  obtain ⟨b, o, hA, hfc⟩ := H0.head (k := 0) (by omega) (hf 0 (by omega))
  obtain ⟨a, ha⟩ : ∃ a, at_ l 0 = a := ⟨_, rfl⟩
  have hae : a ∈ l := by rw [← ha, at_get (by omega)]; exact List.getElem_mem _
  have hfne : a.fs ≠ [] := by rw [← ha]; exact hf 0 (by omega)
  rw [ha] at c0 hA hfc ⊢
  have hx0 := H0.box
  rw [hn] at hx0
  obtain ⟨f, hff⟩ : ∃ f, a.hd = f := ⟨_, rfl⟩
  rw [hff] at hfc ⊢
  obtain ⟨k, v, va, se, li, ki, hfe⟩ : ∃ k v va se li ki, f = ⟨k, va, se, li, ki, v⟩ := ⟨_, _, _, _, _, _, rfl⟩
  subst hfe
  simp only at hfc
  obtain ⟨w1, hw1⟩ : ∃ w1, w0.alloc (.cells #[.string k, .int .u32 (va : Int), .int .u64 (se : Int), .int .u64 (li : Int), .int .u8 (ki : Int), .string v] 44) = w1 := ⟨_, rfl⟩
  have b1 : Below w0.heap.size w0 w1 := by rw [← hw1]; exact (Below.refl _ _).alloc (Nat.le_refl _) _
  have kR1 := kR0.below b1 kR0.lt
  have kF1 : Blk w1 w0.heap.size 44 #[.string k, .int .u32 (va : Int), .int .u64 (se : Int), .int .u64 (li : Int), .int .u8 (ki : Int), .string v] := by rw [← hw1]; exact Blk.new w0 _ _
  have H1 := H0.below b1
  have hx1 := H1.box
  rw [hn] at hx1
  have hfa := hH.fts a hae
  obtain ⟨c1, _⟩ := H1.cells (k := 0) (by omega)
  rw [ha] at c1
  have hadvW : ((adv a).fs = [] ∨ FtAt w (adv a).A (adv a).fs) ∧ (adv a).fs.length ≤ (adv a).c := by
    obtain ⟨f, t, hft⟩ := List.exists_cons_of_ne_nil hfne
    refine ⟨?_, ?_⟩
    · rcases hfa.1 with h | h
      · exact absurd h hfne
      · rw [hft] at h
        by_cases ht : t = []
        · left
          show a.fs.tail = []
          rw [hft]
          exact ht
        · right
          have h2 := h.tail
          have hc1 : a.c ≠ 1 := fun e => by
            have := hfa.2
            rw [hft, e] at this
            cases t with
            | nil => exact ht rfl
            | cons => simp at this
          show FtAt w (cutZ 6 a.A a.c 1) a.fs.tail
          unfold cutZ
          rw [if_neg hc1, hft]
          exact h2
    · show a.fs.tail.length ≤ a.c - 1
      rw [List.length_tail]
      have := hfa.2
      omega
  have hadv : ((adv a).fs = [] ∨ FtAt w1 (adv a).A (adv a).fs) ∧ (adv a).fs.length ≤ (adv a).c := ⟨hadvW.1.imp id (fun f => (f.below b0).below b1), hadvW.2⟩
  have h1 := H1.put1 (k := 0) (by omega) (adv a) (by rw [ha]; rfl) hadv
  obtain ⟨l1, hl1⟩ : ∃ l1, l.set 0 (adv a) = l1 := ⟨_, rfl⟩
  have e1 : ∀ k, at_ l1 k = if k = 0 then adv a else at_ l k := fun k => by rw [← hl1]; exact set0_at (by omega) k
  have hlen1 : l1.length = n + 1 := by rw [← hl1, List.length_set, hn]
  have hD1 : Dn l1 0 (n + 1) := ⟨fun k h0 hk hp => by
    rw [e1, e1, if_neg hp, if_neg (by omega)]
    exact hz k h0 hk, fun _ _ _ _ h => absurd h (by omega)⟩
  have hf1 : ∀ k, 0 < k → k < n + 1 → (at_ l1 k).fs ≠ [] := fun k h0 hk => by
    rw [e1, if_neg (by omega)]
    exact hf k hk
  have hset : l1 = adv a :: l.drop 1 := by rw [← hl1]; exact set0_perm (by omega)
  have hft1 : ∀ e ∈ l1, e.fs = [] ∨ FtAt w e.A e.fs := fun e he => by
    rw [hset] at he
    rcases List.mem_cons.1 he with rfl | he
    · exact hadvW.1
    · exact (hH.fts e (List.mem_of_mem_drop he)).1
  have hfd : ∀ e ∈ l.drop 1, e.fs ≠ [] := fun e he => by
    obtain ⟨j, hj, rfl⟩ := List.mem_iff_getElem.1 he
    rw [List.getElem_drop]
    have := hf (1 + j) (by simp at hj; omega)
    rwa [at_get (by simp at hj; omega)] at this
  rw [hl1] at h1
  have e0 : at_ l1 0 = adv a := by rw [e1]; rfl
  obtain ⟨m, hm⟩ : ∃ m, a.fs.length = m + 1 := ⟨a.fs.length - 1, by have := List.length_pos_iff.2 hfne; omega⟩
  have hmt : (adv a).fs.length = m := by show a.fs.tail.length = m; rw [List.length_tail, hm]; rfl
  have hmc : m + 1 ≤ a.c := by rw [← hm]; exact hfa.2
  rw [hm] at c0 c1
  rw [hmt] at h1
  have hAc : (adv a).A = cutZ 6 a.A a.c 1 := rfl
  have hcc : (adv a).c = a.c - 1 := rfl
  rw [hAc, hcc] at h1
  obtain ⟨ac, hac⟩ : ∃ ac, a.c = ac := ⟨_, rfl⟩
  rw [hac] at h1 c0 c1 hmc
  rw [hA] at h1 c0 c1
  obtain ⟨A2, hA2⟩ : ∃ A2, cutZ 6 (some ⟨b, o, none⟩) ac 1 = A2 := ⟨_, rfl⟩
  rw [hA2] at h1
  have hcut : ∀ W, (Instr.slice 26 (.slice (some ⟨b, o, none⟩) (m + 1) ac) (some (.int .i64 1)) none none).run Try.prog W = .ok (.slice A2 m (ac - 1)) W := fun W => by
    have h := run_cutZ (P := Try.prog) (e := 44) (z := 6) Try.underlying26 (by kernel_rfl) (some ⟨b, o, none⟩) (m + 1) ac 1 (by omega) W
    rw [hA2] at h
    exact h
  rw [Nat.zero_mul] at c0 c1 h1
  have hkb : KeepBut (fun b => b = q ∨ b = g) w (w1.setCell ⟨g, 0, none⟩ (.slice A2 m (ac - 1))).drew := (KeepBut.setCell (S := fun b => b = q ∨ b = g) (p := ⟨g, 0, none⟩) ((KeepBut.of_below b0).trans (KeepBut.of_below b1)) (.inr rfl) _).drew
  have hqg : ∀ x cs, Blk w1 x 44 cs → x ≠ g := fun x cs hb e => by
    obtain ⟨cs', r1, _⟩ := H1.row
    exact hb.ne_ r1 (by decide) e
  obtain ⟨w2, hw2⟩ : ∃ w2, (w1.setCell ⟨g, 0, none⟩ (.slice A2 m (ac - 1))).drew = w2 := ⟨_, rfl⟩
  have H2 : HpAt w2 q g c l1 := by rw [← hw2]; exact h1.below (Below.refl _ _).drew
  have kR2 : Blk w2 w.heap.size 44 #[.string ⟨#[]⟩, .int .u32 0, .int .u64 0, .int .u64 0, .int .u8 0, .string ⟨#[]⟩] := by rw [← hw2]; exact kR1.far (p := ⟨g, 0, none⟩) (hqg _ _ kR1) _
  have kF2 : Blk w2 w0.heap.size 44 #[.string k, .int .u32 (va : Int), .int .u64 (se : Int), .int .u64 (li : Int), .int .u8 (ki : Int), .string v] := by rw [← hw2]; exact kF1.far (p := ⟨g, 0, none⟩) (hqg _ _ kF1) _
  rw [hw2] at hkb
  have hx2 := H2.box
  rw [hlen1] at hx2
  obtain ⟨c2, _⟩ := H2.cells (k := 0) (by omega)
  rw [e0, hmt, hAc, hcc, hac, hA, hA2, Nat.zero_mul] at c2
  obtain ⟨cs, r1, r2, r3⟩ := H1.row
  have fg := r1.frozen
  have cx0 := hx0.cell
  have cx1 := hx1.cell
  have cx2 := hx2.cell
  have hnn : (0 : Int) < (n : Int) + 1 := by omega
  have hmm : (0 : Int) < (m : Int) + 1 := by omega
  have hty : ∀ b cs' fr, w.heap[b]? = some (.cells cs' 44 fr) → ¬ (b = q ∨ b = g) := by
    rintro b cs' fr hb (rfl | rfl)
    · have h1' : w.heap[b]? = _ := hH.box
      rw [h1'] at hb
      injection hb with hb
      injection hb with _ ht
      exact absurd ht (by decide)
    · obtain ⟨cs2, r1', _⟩ := hH.row
      have h1' : w.heap[b]? = _ := r1'
      rw [h1'] at hb
      injection hb with hb
      injection hb with _ ht
      exact absurd ht (by decide)
  have hRq : w.heap.size ≠ q ∧ w.heap.size ≠ g := by
    have := hH.lt
    omega
  have hFq : w0.heap.size ≠ q ∧ w0.heap.size ≠ g := by
    have := hH.lt
    have := b0.size
    omega
  replace hty := Lib.hid hty
  replace hfd := Lib.hid hfd
  replace hft1 := Lib.hid hft1
  clear H0 H1 hH kR0 kR1 kF1 hx0 hx1 hx2 hz hf hfa hadv hadvW hae r1 r3 h1 hqg
  replace e1 := Lib.hid e1
  replace hf1 := Lib.hid hf1
  replace hset := Lib.hid hset
  replace hw0 := Lib.hid hw0
  replace hw1 := Lib.hid hw1
  replace hw2 := Lib.hid hw2
  replace hlen1 := Lib.hid hlen1
  replace e0 := Lib.hid e0
  replace hm := Lib.hid hm
  replace hmt := Lib.hid hmt
  replace hn := Lib.hid hn
  replace hff := Lib.hid hff
  replace ha := Lib.hid ha
  replace hl1 := Lib.hid hl1
  clear hAc hcc hac hA hA2
  have htl : a.fs.tail.length = m := hmt.out
  replace htl := Lib.hid htl
  go_enter Try.func24, Try.ntmps24
  go_wp2_with (first | rw [hw0.out] | rw [hw1.out] | fail)
  refine still_tail 12 (by kernel_rfl) (by kernel_rfl) ?_
  simp only [List.take_succ_cons, List.take_zero, List.drop_succ_cons, List.drop_zero]
  iterate 12 still_step
  refine wpStill_nil ?_
  by_cases h0 : m = 0
  · subst h0
    have hte : a.fs.tail = [] := List.eq_nil_of_length_eq_zero htl.out
    have pp := hpop_any w2 q g c l1 n hlen1.out H2 hn63 hf1.out hD1
    rw [e0.out] at pp
    replace pp := Lib.hid pp
    replace hte := Lib.hid hte
    go_wp2_with (first | rw [hw2.out] | fail)
    refine pp.out.mono ?_
    clear pp
    rintro _ w3 ⟨⟨v3, rfl⟩, l4, p4, z4, h4, k4⟩
    have kR3 := k4.blk kR2 (by intro e; omega)
    have kF3 := k4.blk kF2 (by intro e; omega)
    have hk3 := hkb.trans k4
    replace p4 := Lib.hid p4
    clear cx2 c2 H2 kR2 kF2
    go_wp2_with (first
      | (refine wpList_load_blk rfl 44 (.tmp 3) rfl w0.heap.size rfl kF3 Try.underlying44 rfl fact_sz ?_)
      | (refine wpList_store_blk rfl 44 (.tmp 2) (.tmp 38) rfl w.heap.size rfl kR3 #[.string k, .int .u32 (va : Int), .int .u64 (se : Int), .int .u64 (li : Int), .int .u8 (ki : Int), .string v] rfl fact_sz rfl (fact_one _ _ _ _ _ _) ?_)
      | fail)
    refine bodyPost_ret (results_blk rfl _ w.heap.size rfl (kR3.setRow _) Try.underlying44 rfl fact_sz) rfl ⟨rfl, take_fin hty.out h4 ⟨hRq.1, hRq.2⟩ hk3 (fun e he => hft1.out e (p4.out.subset (by simp [he]))) ?_ ?_⟩
    · unfold rest
      rw [ha.out, if_pos hte.out]
      have h5 := p4.out
      rw [hset.out] at h5
      have h6 : (l4 ++ [adv a]).Perm (adv a :: l4) := List.perm_append_singleton _ _
      exact (List.perm_cons _).1 (h6.symm.trans h5)
    · have h5 := p4.out.length_eq
      simp [hlen1.out] at h5
      rw [h5]
      exact z4
  · have hte : a.fs.tail ≠ [] := fun e => by have := htl.out; rw [e] at this; exact h0 this.symm
    have hm1 : (0 : Int) < (m : Int) := by omega
    have pp := fix_any w2 q g c l1 (n + 1) hlen1.out H2 (by omega) (by omega) (fun k hk => by
      by_cases hk0 : k = 0
      · rw [hk0, e0.out]; exact hte
      · exact hf1.out k (by omega) hk) hD1
    replace pp := Lib.hid pp
    replace hte := Lib.hid hte
    go_wp2_with (first | rw [hw2.out] | fail)
    refine pp.out.mono ?_
    clear pp
    rintro _ w3 ⟨⟨v3, rfl⟩, l4, p4, z4, h4, k4'⟩
    have k4 : KeepBut (fun b => b = q ∨ b = g) w2 w3 := k4'.weak (fun k _ e => .inr e)
    have kR3 := k4.blk kR2 (by intro e; omega)
    have kF3 := k4.blk kF2 (by intro e; omega)
    have hk3 := hkb.trans k4
    replace p4 := Lib.hid p4
    clear cx2 c2 H2 kR2 kF2
    go_wp2_with (first
      | (refine wpList_load_blk rfl 44 (.tmp 3) rfl w0.heap.size rfl kF3 Try.underlying44 rfl fact_sz ?_)
      | (refine wpList_store_blk rfl 44 (.tmp 2) (.tmp 38) rfl w.heap.size rfl kR3 #[.string k, .int .u32 (va : Int), .int .u64 (se : Int), .int .u64 (li : Int), .int .u8 (ki : Int), .string v] rfl fact_sz rfl (fact_one _ _ _ _ _ _) ?_)
      | fail)
    refine bodyPost_ret (results_blk rfl _ w.heap.size rfl (kR3.setRow _) Try.underlying44 rfl fact_sz) rfl ⟨rfl, take_fin hty.out h4 ⟨hRq.1, hRq.2⟩ hk3 (fun e he => hft1.out e (p4.out.subset he)) ?_ ?_⟩
    · unfold rest
      rw [ha.out, if_neg hte.out]
      have h5 := p4.out
      rw [hset.out] at h5
      exact h5
    · have h5 := p4.out.length_eq
      rw [hlen1.out] at h5
      rw [h5]
      exact z4
end Go.Proofs.Ytnlmchbigpjamaa
