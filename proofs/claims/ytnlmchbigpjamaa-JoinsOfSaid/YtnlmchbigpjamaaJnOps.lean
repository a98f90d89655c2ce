/- The walks of Swap, Len, Push and Pop of lists that wait. -/
import Derived.Test.YtnlmchbigpjamaaJnMem
import Derived.Deep.RegionLaw
import Derived.RegionTactic
import Derived.BigRegion
set_option linter.unusedSimpArgs false
set_option linter.unusedVariables false
namespace Go.Proofs.Ytnlmchbigpjamaa
open Go Go.RowKit Herb Herb.Jn
theorem len_any (w : World) (g c n : Nat) : Calls Try.prog 59 #[.slice (some ⟨g, 0, none⟩) n c] w fun e w' => e = .returned (.int .i64 (n : Int)) ∧ w = w' := by
  go_enter Try.func59, Try.ntmps59
  go_wp2
  go_ret
  exact ⟨rfl, rfl⟩
theorem blk_far2 {w : World} {q g : Nat} {t : TypeId} {cs : Array Value} (h : Blk w q t cs) (hne : q ≠ g) (i j : Nat) (u v : Value) : Blk ((w.setCell ⟨g, i, none⟩ u).setCell ⟨g, j, none⟩ v) q t cs := (h.far hne u).far hne v
theorem KeepBut.set2 (w : World) (g i j : Nat) (u v : Value) : KeepBut (fun b => b = g) w ((w.setCell ⟨g, i, none⟩ u).setCell ⟨g, j, none⟩ v) := (KeepBut.set_at w g i u).trans (KeepBut.set_at _ g j v)
/-- One element of the row is another one. -/
theorem HpAt.put {w : World} {q g c : Nat} {l : List En} (h : HpAt w q g c l) {k : Nat} (hk : k < l.length) (e : En) (he : (e.fs = [] ∨ FtAt w e.A e.fs) ∧ e.fs.length ≤ e.c) :
    HpAt ((w.setCell ⟨g, k * 2, none⟩ (.slice e.A e.fs.length e.c)).setCell ⟨g, k * 2 + 1, none⟩ (.int .i64 (e.pl : Int))) q g c (l.set k e) := by
  obtain ⟨cs, h1, h2, h3⟩ := h.row
  have hcap := h.cap
  have hne : q ≠ g := h.box.ne_ h1 (by decide)
  have hkp := KeepBut.set2 w g (k * 2) (k * 2 + 1) (.slice e.A e.fs.length e.c) (.int .i64 (e.pl : Int))
  have hty : ∀ b cs' fr, w.heap[b]? = some (.cells cs' 44 fr) → ¬ (b = g) := by
    rintro b cs' fr hb rfl
    have h1' : w.heap[b]? = _ := h1
    rw [h1'] at hb
    injection hb with hb
    injection hb with _ ht
    exact absurd ht (by decide)
  refine ⟨by rw [List.length_set]; exact blk_far2 h.box hne _ _ _ _, ⟨_, (h1.store _ _).store _ _, by simp [h2], fun j x hj => ?_⟩, by rw [List.length_set]; exact hcap, fun x hx => ?_⟩
  · rw [List.getElem?_set] at hj
    by_cases hjk : k = j
    · subst hjk
      rw [if_pos rfl, if_pos hk] at hj
      cases hj
      refine ⟨?_, ?_⟩
      · rw [Array.getElem?_setIfInBounds_ne (by omega), Array.getElem?_setIfInBounds_self_of_lt (by omega)]
      · rw [Array.getElem?_setIfInBounds_self_of_lt (by simp; omega)]
    · rw [if_neg hjk] at hj
      have := h3 j x hj
      rw [Array.getElem?_setIfInBounds_ne (by omega), Array.getElem?_setIfInBounds_ne (by omega), Array.getElem?_setIfInBounds_ne (by omega), Array.getElem?_setIfInBounds_ne (by omega)]
      exact this
  · have he' : (e.fs = [] ∨ FtAt ((w.setCell ⟨g, k * 2, none⟩ (.slice e.A e.fs.length e.c)).setCell ⟨g, k * 2 + 1, none⟩ (.int .i64 (e.pl : Int))) e.A e.fs) ∧ e.fs.length ≤ e.c := ⟨he.1.imp id (fun f => f.keep hkp hty), he.2⟩
    rcases List.mem_or_eq_of_mem_set hx with hm | rfl
    · exact ⟨(h.fts x hm).1.imp id (fun f => f.keep hkp hty), (h.fts x hm).2⟩
    · exact he'
set_option maxRecDepth 100000 in
set_option maxHeartbeats 1600000 in
theorem swap_any (w : World) (q g c : Nat) (l : List En) (n : Nat) (hn : l.length = n) (hH : HpAt w q g c l) (i k : Nat) (hi : i < n) (hk : k < n) (hn63 : n ≤ 1000000) :
    Calls Try.prog 61 #[.slice (some ⟨g, 0, none⟩) n c, .int .i64 (i : Int), .int .i64 (k : Int)] w fun e w' => (∃ v, e = .returned v) ∧ HpAt w' q g c (sw l i k) ∧ KeepBut (fun b => b = g) w w' := by
  obtain ⟨c1, c2⟩ := hH.cells (k := i) (by omega)
  obtain ⟨d1, d2⟩ := hH.cells (k := k) (by omega)
  obtain ⟨cs, r1, r2, r3⟩ := hH.row
  have hcap := hH.cap
  have fr := r1.frozen
  have hii : (0 : Int) ≤ (i : Int) ∧ (i : Int) < (n : Int) := by omega
  have hkk : (0 : Int) ≤ (k : Int) ∧ (k : Int) < (n : Int) := by omega
  have hmi : at_ l i ∈ l := by rw [at_get (by omega)]; exact List.getElem_mem _
  have hmk : at_ l k ∈ l := by rw [at_get (by omega)]; exact List.getElem_mem _
  have p1 := hH.put (k := i) (by omega) (at_ l k) (hH.fts _ hmk)
  have k1 := KeepBut.set2 w g (i * 2) (i * 2 + 1) (.slice (at_ l k).A (at_ l k).fs.length (at_ l k).c) (.int .i64 ((at_ l k).pl : Int))
  have hty : ∀ b cs' fr, w.heap[b]? = some (.cells cs' 44 fr) → ¬ (b = g) := by
    rintro b cs' fr hb rfl
    have h1' : w.heap[b]? = _ := r1
    rw [h1'] at hb
    injection hb with hb
    injection hb with _ ht
    exact absurd ht (by decide)
  have p2 := p1.put (k := k) (by rw [List.length_set]; omega) (at_ l i) ⟨(hH.fts _ hmi).1.imp id (fun f => f.keep k1 hty), (hH.fts _ hmi).2⟩
  have k2 := k1.trans (KeepBut.set2 _ g (k * 2) (k * 2 + 1) (.slice (at_ l i).A (at_ l i).fs.length (at_ l i).c) (.int .i64 ((at_ l i).pl : Int)))
  have hsw : HpAt _ q g c (sw l i k) ∧ KeepBut (fun b => b = g) w _ := ⟨p2.below (Below.refl _ _).drew, k2.drew⟩
  replace hsw := Lib.hid hsw
  clear p1 p2 k1 k2 hty hmi hmk
  clear r3
  by_cases hik : i = k
  · subst hik
    go_enter Try.func61, Try.ntmps61
    go_wp2_with fail
    go_region
    all_goals
      go_wp2
      go_end0
      exact ⟨⟨_, rfl⟩, hsw.out⟩
  · go_enter Try.func61, Try.ntmps61
    go_wp2_with fail
    go_region
    all_goals
      go_wp2
      go_end0
      exact ⟨⟨_, rfl⟩, hsw.out⟩
/-- The row of a heap, as cells. -/
def enC (l : List En) : List Value := l.flatMap fun e => [.slice e.A e.fs.length e.c, .int .i64 (e.pl : Int)]
theorem enC_len (l : List En) : (enC l).length = l.length * 2 := by
  unfold enC
  induction l with
  | nil => rfl
  | cons x l ih => rw [List.flatMap_cons, List.length_append, ih, List.length_cons]; simp; omega
theorem enC_snoc (l : List En) (e : En) : enC (l ++ [e]) = enC l ++ [.slice e.A e.fs.length e.c, .int .i64 (e.pl : Int)] := by unfold enC; rw [List.flatMap_append]; rfl
theorem enC_get : ∀ {l : List En} {k : Nat} {e : En}, l[k]? = some e → (enC l)[k * 2]? = some (.slice e.A e.fs.length e.c) ∧ (enC l)[k * 2 + 1]? = some (.int .i64 (e.pl : Int))
  | x :: l, 0, e, h => by
    simp only [List.getElem?_cons_zero, Option.some.injEq] at h
    subst h
    exact ⟨rfl, rfl⟩
  | x :: l, k + 1, e, h => by
    have ih := enC_get (l := l) (k := k) (by simpa using h)
    have e1 : enC (x :: l) = [.slice x.A x.fs.length x.c, .int .i64 (x.pl : Int)] ++ enC l := rfl
    have e2 : (k + 1) * 2 = 2 + k * 2 := by omega
    rw [e1, e2]
    refine ⟨?_, ?_⟩
    · rw [List.getElem?_append_right (by simp)]
      simpa using ih.1
    · rw [List.getElem?_append_right (by simp; omega), show 2 + k * 2 + 1 - [Value.slice x.A x.fs.length x.c, Value.int .i64 (x.pl : Int)].length = k * 2 + 1 by simp; omega]
      exact ih.2
theorem enC_one (l : List En) : ∀ u ∈ enC l, u.oneCell' = true := by
  intro u hu
  obtain ⟨e, _, h⟩ := List.mem_flatMap.1 hu
  simp only [List.mem_cons, List.not_mem_nil, or_false] at h
  rcases h with rfl | rfl <;> rfl
theorem HpAt.own {w : World} {q g c : Nat} {l : List En} (h : HpAt w q g c l) {base : Nat} (hb : base ≤ g) (hc : c ≤ maxLen) : w.ownsRow base 61 2 (.slice (some ⟨g, 0, none⟩) l.length c) l.length (enC l) := by
  obtain ⟨cs, h1, h2, h3⟩ := h.row
  refine ⟨enC_len l, .inr ⟨g, c, cs, rfl, hb, h1, h.cap, hc, h2, List.ext_getElem? fun j => ?_⟩⟩
  have hl := enC_len l
  have hcap := h.cap
  by_cases hj : j < l.length * 2
  · rw [List.getElem?_take, if_pos hj, Array.getElem?_toList]
    have hk : j / 2 < l.length := by omega
    have e := h3 (j / 2) _ (List.getElem?_eq_getElem hk)
    have e' := enC_get (List.getElem?_eq_getElem hk)
    rcases Nat.mod_two_eq_zero_or_one j with h0 | h0
    · have hj2 : j = j / 2 * 2 := by omega
      rw [hj2, e'.1]
      exact e.1
    · have hj2 : j = j / 2 * 2 + 1 := by omega
      rw [hj2, e'.2]
      exact e.2
  · rw [List.getElem?_eq_none (l := enC l) (by omega), List.getElem?_eq_none (by rw [List.length_take]; omega)]
theorem HpAt.of_own {w : World} {q g c : Nat} {l : List En} {base : Nat} (hx : Blk w q 56 #[.slice (some ⟨g, 0, none⟩) l.length c]) (h : w.ownsRow base 61 2 (.slice (some ⟨g, 0, none⟩) l.length c) l.length (enC l))
    (hf : ∀ e ∈ l, (e.fs = [] ∨ FtAt w e.A e.fs) ∧ e.fs.length ≤ e.c) : HpAt w q g c l ∧ base ≤ g ∧ c ≤ maxLen := by
  rcases h.2 with ⟨h1, _⟩ | ⟨g', c', cur, hv, hb, hg, h1, h2, h3, h4⟩
  · cases h1
  · cases hv
    refine ⟨⟨hx, ⟨cur, hg, h3, fun k e he => ?_⟩, h1, hf⟩, hb, h2⟩
    have hk := (List.getElem?_eq_some_iff.1 he).1
    have e' := enC_get he
    rw [← h4, List.getElem?_take, List.getElem?_take, if_pos (by omega), if_pos (by omega)] at e'
    simpa using e'
theorem own_neJ {w : World} {base n size p : Nat} {e t : TypeId} {v : Value} {xs : List Value} {cs : Array Value} {fr : Nat × Nat} (h : w.ownsRow base e size v n xs) (hb : w.heap[p]? = some (Obj.cells cs t fr)) (hne : t ≠ e) : some p ≠ v.ownBlock := by
  rcases h.2 with ⟨rfl, _⟩ | ⟨g, cap, cur, rfl, _, hg, _⟩
  · simp [Value.ownBlock]
  · simp only [Value.ownBlock, ne_eq, Option.some.injEq]
    rintro rfl
    rw [hg] at hb
    injection hb with hb
    injection hb with _ ht
    exact hne ht.symm
theorem own_drew {w : World} {base n size : Nat} {e : TypeId} {v : Value} {xs : List Value} (h : w.ownsRow base e size v n xs) : w.drew.ownsRow base e size v n xs := h
/-- A heap of lists, or none yet. -/
structure HpO (w : World) (base q : Nat) (l : List En) : Prop where
  bq : base ≤ q
  at_ : (l = [] ∧ Blk w q 56 #[.slice none 0 0]) ∨ ∃ g c, base ≤ g ∧ c ≤ maxLen ∧ HpAt w q g c l
theorem HpO.below {w w' : World} {base q : Nat} {l : List En} (h : HpO w base q l) (hb : Below w.heap.size w w') : HpO w' base q l := by
  refine ⟨h.bq, ?_⟩
  rcases h.at_ with ⟨h1, h2⟩ | ⟨g, c, h1, h2, h3⟩
  · exact .inl ⟨h1, h2.below hb h2.lt⟩
  · exact .inr ⟨g, c, h1, h2, h3.below hb⟩
theorem HpO.slice {w : World} {base q : Nat} {l : List En} (h : HpO w base q l) : ∃ A c, Blk w q 56 #[.slice A l.length c] ∧ w.ownsRow base 61 2 (.slice A l.length c) l.length (enC l) ∧ (∀ e ∈ l, (e.fs = [] ∨ FtAt w e.A e.fs) ∧ e.fs.length ≤ e.c) := by
  rcases h.at_ with ⟨rfl, h2⟩ | ⟨g, c, h1, h2, h3⟩
  · exact ⟨none, 0, h2, World.ownsRow_nil _ _ _ _, fun e he => by cases he⟩
  · exact ⟨_, c, h3.box, h3.own h1 h2, h3.fts⟩
theorem listInfo : (Try.prog.info? 61).map (fun i => (i.zero, i.size, i.bytes)) = some (some (.agg #[.slice none 0 0, .int .i64 0]), 2, 32) := by kernel_rfl
theorem push_fin {z w4 : World} {base q g4 cp4 : Nat} {v : Value} {l : List En} {e : En} (hod : z.ownsRow base 61 2 v l.length (enC l)) (hx : Blk z q 56 #[v]) (hft : ∀ x ∈ l ++ [e], (x.fs = [] ∨ FtAt z x.A x.fs) ∧ x.fs.length ≤ x.c) (hg : z.grownBy w4 v.ownBlock)
    (hown4 : w4.ownsRow base 61 2 (.slice (some ⟨g4, 0, none⟩) (l.length + 1) cp4) (l.length + 1) (enC l ++ [.slice e.A e.fs.length e.c, .int .i64 (e.pl : Int)])) (hbq : base ≤ q) (hbz : base ≤ z.heap.size) :
    HpO (w4.setCell ⟨q, 0, none⟩ (.slice (some ⟨g4, 0, none⟩) (l.length + 1) cp4)) base q (l ++ [e]) ∧ Below base z (w4.setCell ⟨q, 0, none⟩ (.slice (some ⟨g4, 0, none⟩) (l.length + 1) cp4)) := by
  have hx4 := hx.grown hg (own_neJ hod hx (by decide))
  have b4 : Below base z w4 := below_app (Below.refl _ _) hod (Nat.le_refl _) hbz hg
  have k4 : KeepBut (fun k => some k = v.ownBlock) z w4 := KeepBut.of_grown hg (fun k e => e.symm)
  have k5 := KeepBut.set_at w4 q 0 (.slice (some ⟨g4, 0, none⟩) (l.length + 1) cp4)
  have hel : (l ++ [e]).length = l.length + 1 := by simp
  have hqg : q ≠ g4 := by
    have := own_neJ hown4 hx4 (by decide)
    simpa [Value.ownBlock] using this
  have ho5 := k5.own hown4 (fun k hk => by
    simp only [Value.ownBlock, Option.some.injEq] at hk
    exact fun e => hqg (by rw [← e, hk]))
  have hx5 := hx4.store 0 (.slice (some ⟨g4, 0, none⟩) (l.length + 1) cp4)
  rw [← enC_snoc, ← hel] at ho5
  have ha := HpAt.of_own (q := q) (by rw [hel]; exact hx5) (by rw [hel] at ho5 ⊢; exact ho5) (fun x hxm => ⟨(hft x hxm).1.imp id (fun f => (f.keep k4 (fun k cs fr hk => own_neJ hod hk (by decide))).keep k5 (by
    rintro k cs fr hk rfl
    have hx4' : w4.heap[k]? = _ := hx4
    rw [hx4'] at hk
    injection hk with hk
    injection hk with _ ht
    exact absurd ht (by decide))), (hft x hxm).2⟩)
  exact ⟨⟨hbq, .inr ⟨g4, cp4, ha.2.1, ha.2.2, ha.1⟩⟩, b4.setCell (p := ⟨q, 0, none⟩) hbq _⟩
set_option maxRecDepth 100000 in
set_option maxHeartbeats 1600000 in
theorem push_any (w : World) (base q : Nat) (l : List En) (hH : HpO w base q l) (hbase : base ≤ w.heap.size) (e : En) (he : FtAt w e.A e.fs) (hec : e.fs.length ≤ e.c) (hl : l.length ≤ 100000) :
    Calls Try.prog 65 #[.pointer (some ⟨q, 0, none⟩), .iface 61 (.agg #[.slice e.A e.fs.length e.c, .int .i64 (e.pl : Int)])] w fun e' w' => (∃ v, e' = .returned v) ∧ HpO w' base q (l ++ [e]) ∧ Below base w w' := by
  obtain ⟨A, c, hbx, how, hft⟩ := hH.slice
  have hbq := hH.bq
  obtain ⟨n, hn⟩ : ∃ n, l.length = n := ⟨_, rfl⟩
  obtain ⟨m, hm⟩ : ∃ m, e.fs.length = m := ⟨_, rfl⟩
  rw [hn] at hbx how hl
  rw [hm]
  obtain ⟨Ae, ce, pe, hAe⟩ : ∃ Ae ce pe, e.A = Ae ∧ e.c = ce ∧ e.pl = pe := ⟨_, _, _, rfl, rfl, rfl⟩
  obtain ⟨w1, hw1⟩ : ∃ w1, w.alloc (.cells #[.slice Ae m ce, .int .i64 (pe : Int)] 61) = w1 := ⟨_, rfl⟩
  have b1 : Below w.heap.size w w1 := by rw [← hw1]; exact (Below.refl _ _).alloc (Nat.le_refl _) _
  have hs1 : w1.heap.size = w.heap.size + 1 := by rw [← hw1]; simp
  have hx1 := hbx.below b1 hbx.lt
  have ho1 : w1.ownsRow base 61 2 (.slice A n c) n (enC l) := by rw [← hw1]; exact how.alloc _
  have hk1 : Blk w1 w.heap.size 61 #[.slice Ae m ce, .int .i64 (pe : Int)] := by rw [← hw1]; exact Blk.new w _ _
  have cx := hx1.cell
  have fx := hx1.frozen
  have ck := hk1.cell
  have hbl1 : base ≤ w1.heap.size := by omega
  have rdX : Rd (w1.alloc (.cells #[.slice Ae m ce, .int .i64 (pe : Int)] 61)) 2 (some ⟨w1.heap.size, 0, none⟩) 1 [.slice Ae m ce, .int .i64 (pe : Int)] := (Blk.new w1 61 _).rd rfl (fun j u hu => by simpa using hu)
  have one : ∀ u ∈ ([.slice Ae m ce, .int .i64 (pe : Int)] : List Value), u.oneCell' = true := by
    intro u hu
    simp only [List.mem_cons, List.not_mem_nil, or_false] at hu
    rcases hu with rfl | rfl <;> rfl
  have hxd : Blk (w1.alloc (.cells #[.slice Ae m ce, .int .i64 (pe : Int)] 61)).drew q 56 #[.slice A n c] := hx1.alloc _
  have hod : (w1.alloc (.cells #[.slice Ae m ce, .int .i64 (pe : Int)] 61)).drew.ownsRow base 61 2 (.slice A n c) n (enC l) := ho1.alloc _
  have cxa := (hx1.alloc (.cells #[.slice Ae m ce, .int .i64 (pe : Int)] 61)).cell
  have cka := (hk1.alloc (.cells #[.slice Ae m ce, .int .i64 (pe : Int)] 61)).cell
  have bz : Below w.heap.size w (w1.alloc (.cells #[.slice Ae m ce, .int .i64 (pe : Int)] 61)).drew := (b1.alloc b1.size _).drew
  have hfz : ∀ x ∈ l ++ [e], (x.fs = [] ∨ FtAt (w1.alloc (.cells #[.slice Ae m ce, .int .i64 (pe : Int)] 61)).drew x.A x.fs) ∧ x.fs.length ≤ x.c := fun x hx => by
    rcases List.mem_append.1 hx with h | h
    · exact ⟨(hft x h).1.imp id (fun f => f.below bz), (hft x h).2⟩
    · obtain rfl := List.mem_singleton.1 h
      exact ⟨.inr (he.below bz), hec⟩
  have hbZ := bz.mono hbase
  have hbz : base ≤ (w1.alloc (.cells #[.slice Ae m ce, .int .i64 (pe : Int)] 61)).drew.heap.size := Nat.le_trans hbase bz.size
  replace hfz := Lib.hid hfz
  replace hxd := Lib.hid hxd
  replace one := Lib.hid one
  replace rdX := Lib.hid rdX
  rw [hAe.1, hAe.2.1, hAe.2.2]
  replace hm := Lib.hid hm
  replace hn := Lib.hid hn
  replace hAe := Lib.hid hAe
  replace hw1 := Lib.hid hw1
  replace hs1 := Lib.hid hs1
  have ta : ∀ W, (Instr.typeAssert (.iface 61 (.agg #[.slice Ae m ce, .int .i64 (pe : Int)])) 20 61 true).run Try.prog W = .ok (.tuple #[.agg #[.slice Ae m ce, .int .i64 (pe : Int)], .bool true]) W := fun W => by kernel_rfl
  go_enter Try.func65, Try.ntmps65
  go_wp2_with (first | rw [hw1.out] | fail)
  go_region_law ((first
    | (refine step_app _ (by rfl) (.tmp 15) (.tmp 17) (by rfl) Try.underlying56 listInfo (by rfl) (by omega) hod (by rfl) _ 1 1 rdX.out (by rfl) one.out (by unfold maxLen; omega) (by omega) (by simp; omega) ?_; intro v4 w4 hown4 hgrow4 _; have hx4 := hxd.out.grown hgrow4 (own_neJ hod hxd.out (by decide)); obtain ⟨g4, cp4, rfl, hg4, hg4'⟩ := hown4.form (by omega); have cx4 := hx4.cell; have fx4 := hx4.frozen)
    | fail))
  all_goals
    have hfin := push_fin (e := e) (l := l) (by rw [hn.out]; exact hod) hxd.out hfz.out hgrow4 (by rw [hn.out, hAe.out.1, hm.out, hAe.out.2.1, hAe.out.2.2]; exact hown4) hbq hbz
    rw [hn.out] at hfin
    replace hfin := Lib.hid hfin
    go_wp2
    go_end0
    exact ⟨⟨_, rfl⟩, hfin.out.1, hbZ.trans hfin.out.2⟩
theorem HpAt.pop {w : World} {q g c n : Nat} {l : List En} {e : En} (h : HpAt w q g c (l ++ [e])) (hn : l.length = n) : HpAt (w.setCell ⟨q, 0, none⟩ (.slice (some ⟨g, 0, none⟩) n c)) q g c l := by
  obtain ⟨cs, h1, h2, h3⟩ := h.row
  have hcap := h.cap
  have hne : g ≠ q := fun e => h.box.ne_ h1 (by decide) e.symm
  have hx := h.box.store 0 (.slice (some ⟨g, 0, none⟩) n c)
  rw [List.length_append] at hcap
  have hty : ∀ b cs' fr, w.heap[b]? = some (.cells cs' 44 fr) → ¬ (b = q) := by
    rintro b cs' fr hb rfl
    have h1' : w.heap[b]? = _ := h.box
    rw [h1'] at hb
    injection hb with hb
    injection hb with _ ht
    exact absurd ht (by decide)
  refine ⟨by rw [hn]; exact hx, ⟨cs, h1.far hne _, h2, fun k x hk => h3 k x (by rw [List.getElem?_append_left (List.getElem?_eq_some_iff.1 hk).1]; exact hk)⟩, by omega, fun x hx => ⟨(h.fts x (by simp [hx])).1.imp id (fun f => f.keep (KeepBut.set_at w q 0 _) hty), (h.fts x (by simp [hx])).2⟩⟩
set_option maxRecDepth 100000 in
set_option maxHeartbeats 1600000 in
theorem pop_any (w : World) (q g c : Nat) (l : List En) (e : En) (n : Nat) (hn : l.length = n) (hH : HpAt w q g c (l ++ [e])) (hn63 : n ≤ 1000000) :
    Calls Try.prog 64 #[.pointer (some ⟨q, 0, none⟩)] w fun e' w' => (∃ v, e' = .returned v) ∧ HpAt w' q g c l ∧ KeepBut (fun b => b = q) w w' := by
  have hl : (l ++ [e]).length = n + 1 := by simp [hn]
  have hx := hH.box
  rw [hl] at hx
  obtain ⟨c1, c2⟩ := hH.cells (k := n) (by omega)
  have cx := hx.cell
  have fx := hx.frozen
  have hcap := hH.cap
  rw [hl] at hcap
  obtain ⟨Ae, m, ce, pe, hAe⟩ : ∃ Ae m ce pe, (at_ (l ++ [e]) n).A = Ae ∧ (at_ (l ++ [e]) n).fs.length = m ∧ (at_ (l ++ [e]) n).c = ce ∧ (at_ (l ++ [e]) n).pl = pe := ⟨_, _, _, _, rfl, rfl, rfl, rfl⟩
  rw [hAe.1, hAe.2.1, hAe.2.2.1] at c1
  rw [hAe.2.2.2] at c2
  obtain ⟨w1, hw1⟩ : ∃ w1, w.alloc (.cells #[.slice Ae m ce, .int .i64 (pe : Int)] 61) = w1 := ⟨_, rfl⟩
  have b1 : Below w.heap.size w w1 := by rw [← hw1]; exact (Below.refl _ _).alloc (Nat.le_refl _) _
  have hs1 : w1.heap.size = w.heap.size + 1 := by rw [← hw1]; simp
  have hx1 := hx.below b1 hx.lt
  have hk1 : Blk w1 w.heap.size 61 #[.slice Ae m ce, .int .i64 (pe : Int)] := by rw [← hw1]; exact Blk.new w _ _
  have ck := hk1.cell
  have cx1 := hx1.cell
  have fx1 := hx1.frozen
  have hne : w.heap.size ≠ q := by have := hx.lt; omega
  have hne' : q ≠ w.heap.size := fun e => hne e.symm
  have hnn : (0 : Int) ≤ (n : Int) ∧ (n : Int) < (n : Int) + 1 := by omega
  replace hAe := Lib.hid hAe
  replace hw1 := Lib.hid hw1
  replace hs1 := Lib.hid hs1
  replace hl := Lib.hid hl
  replace hn := Lib.hid hn
  go_enter Try.func64, Try.ntmps64
  go_wp2_with (first | rw [hw1.out] | fail)
  go_ret
  exact ⟨⟨_, rfl⟩, (hH.below b1).pop hn.out, (KeepBut.of_below b1).setCell (S := fun b => b = q) (p := ⟨q, 0, none⟩) rfl _⟩
end Go.Proofs.Ytnlmchbigpjamaa
