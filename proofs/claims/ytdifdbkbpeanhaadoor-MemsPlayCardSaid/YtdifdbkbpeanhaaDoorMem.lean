/- A mem in memory; the walks of New, there, Len, Bytes, Frozen, Freeze. -/
import Derived.Test.YtdifdbkbpeanhaaDoorMemCol
import Derived.Test.YtdifdbkbpeanhaaDoorSkTop
import Derived.Test.YtdifdbkbpeanhaaDoorKeyPut2
import Derived.Test.YtdifdbkbpeanhaaDoorKeyMay
set_option linter.unusedSimpArgs false
set_option linter.unusedVariables false
namespace Go.Proofs.YtdifdbkbpeanhaaDoor
open Go Go.RowKit Herb

/-- A mem at q: its list at p (nodes in block g) tells M, its facts are fs. -/
structure MemAt (w : World) (base q p g : Nat) (A : Option Addr) (cap : Nat) (M : List (List UInt8 × Int)) (fs : List Ft) (b : Int) (fr : Bool) : Prop where
  box : Blk w q 56 #[.pointer (some ⟨p, 0, none⟩), .slice A fs.length cap, .int .i64 b, .bool fr]
  sk : SkL w base p g M
  row : w.ownsRow base 27 6 (.slice A fs.length cap) fs.length (ftC fs)
  qb : base ≤ q
  ix : ∀ x ∈ M, ∃ i : Nat, x.2 = (i : Int) ∧ i < fs.length
section
variable {w w' : World} {base q p g cap : Nat} {A : Option Addr} {M : List (List UInt8 × Int)} {fs : List Ft} {b : Int} {fr : Bool}
theorem MemAt.below (h : MemAt w base q p g A cap M fs b fr) (hb : Below w.heap.size w w') : MemAt w' base q p g A cap M fs b fr :=
  ⟨h.box.below hb h.box.lt, h.sk.below hb, h.row.kept (row := none) ⟨hb.os, hb.tape, hb.output, hb.size, fun k hk _ => hb.block k hk⟩ (by cases (Value.slice A fs.length cap).ownBlock <;> simp), h.qb, h.ix⟩
theorem own_keep {S : Nat → Prop} {base n size : Nat} {e : TypeId} {v : Value} {xs : List Value} (h : w.ownsRow base e size v n xs) (hk : KeepBut S w w') (hn : ∀ k, v.ownBlock = some k → ¬ S k) : w'.ownsRow base e size v n xs := by
  refine ⟨h.1, ?_⟩
  rcases h.2 with ⟨h1, h0⟩ | ⟨g', cap', cur, rfl, hb, hgg, hc⟩
  · exact .inl ⟨h1, h0⟩
  · exact .inr ⟨g', cap', cur, rfl, hb, (hk.block g' (Array.getElem?_eq_some_iff.1 hgg).1 (hn g' rfl)).trans hgg, hc⟩
theorem own_ty {base n size : Nat} {e : TypeId} {v : Value} {xs : List Value} (h : w.ownsRow base e size v n xs) {k : Nat} (hk : v.ownBlock = some k) : base ≤ k ∧ k < w.heap.size ∧ ∃ cs f, w.heap[k]? = some (.cells cs e f) := by
  rcases h.2 with ⟨rfl, h0⟩ | ⟨g', cap', cur, rfl, hb, hgg, hc⟩
  · cases hk
  · cases hk
    exact ⟨hb, (Array.getElem?_eq_some_iff.1 hgg).1, cur, _, hgg⟩
theorem ty_ne {k k' : Nat} {cs cs' : Array Value} {t t' : TypeId} {f f' : Nat × Nat} (h : w.heap[k]? = some (.cells cs t f)) (h' : w.heap[k']? = some (.cells cs' t' f')) (hne : t ≠ t') : k ≠ k' := by
  rintro rfl
  rw [h] at h'
  injection h' with h'
  injection h' with _ h2 _
  exact hne h2
/-- A mem's blocks. -/
def memS (q p g : Nat) (A : Option Addr) (n cap : Nat) : Nat → Prop := fun k => k = q ∨ k = p ∨ k = g ∨ (Value.slice A n cap).ownBlock = some k
theorem MemAt.blocks (h : MemAt w base q p g A cap M fs b fr) {k : Nat} (hk : memS q p g A fs.length cap k) : base ≤ k ∧ k < w.heap.size ∧ ∃ cs t f, w.heap[k]? = some (.cells cs t f) ∧ (t = 56 ∨ t = 81 ∨ t = 91 ∨ t = 27) := by
  obtain ⟨⟨c1, f1, t1⟩, ⟨c2, f2, t2⟩⟩ := h.sk.types
  have hl := h.sk.lt
  rcases hk with rfl | rfl | rfl | hk
  · exact ⟨h.qb, h.box.lt, _, _, _, h.box, .inl rfl⟩
  · exact ⟨hl.2.2.1, hl.1, _, _, _, t1, .inr (.inl rfl)⟩
  · exact ⟨hl.2.2.2.1, hl.2.1, _, _, _, t2, .inr (.inr (.inl rfl))⟩
  · obtain ⟨h1, h2, c3, f3, t3⟩ := own_ty h.row hk
    exact ⟨h1, h2, _, _, _, t3, .inr (.inr (.inr rfl))⟩
theorem MemAt.apart (h : MemAt w base q p g A cap M fs b fr) : q ≠ p ∧ q ≠ g ∧ p ≠ g ∧ ∀ k, (Value.slice A fs.length cap).ownBlock = some k → k ≠ q ∧ k ≠ p ∧ k ≠ g := by
  obtain ⟨⟨c1, f1, t1⟩, ⟨c2, f2, t2⟩⟩ := h.sk.types
  have hq : w.heap[q]? = _ := h.box
  refine ⟨ty_ne hq t1 (by decide), ty_ne hq t2 (by decide), ty_ne t1 t2 (by decide), fun k hk => ?_⟩
  obtain ⟨_, _, c3, f3, t3⟩ := own_ty h.row hk
  exact ⟨ty_ne t3 hq (by decide), ty_ne t3 t1 (by decide), ty_ne t3 t2 (by decide)⟩
theorem MemAt.keep {S : Nat → Prop} (h : MemAt w base q p g A cap M fs b fr) (hk : KeepBut S w w') (hn : ∀ k, memS q p g A fs.length cap k → ¬ S k) (hu : ∀ k cs f, w.heap[k]? = some (.cells cs 5 f) → ¬ S k) : MemAt w' base q p g A cap M fs b fr :=
  ⟨(hk.block q h.box.lt (hn q (.inl rfl))).trans h.box, h.sk.keep hk (hn p (.inr (.inl rfl))) (hn g (.inr (.inr (.inl rfl)))) hu, own_keep h.row hk (fun k e => hn k (.inr (.inr (.inr e)))), h.qb, h.ix⟩
theorem MemAt.facts (h : MemAt w base q p g A cap M fs b fr) : Fs w A fs := Rd.of_own h.row
end

theorem mnew_any (w : World) : Calls Tryd.prog 6 #[] w fun e w' => ∃ q p g, e = .returned (.pointer (some ⟨q, 0, none⟩)) ∧ MemAt w' w.heap.size q p g none 0 [] [] 0 false ∧ Below w.heap.size w w' := by
  go_enter Tryd.func6, Tryd.ntmps6
  go_wp2_with fail
  refine (newL w).mono ?_
  rintro _ w1 ⟨p, g, rfl, hS, b1⟩
  go_wp2
  go_ret
  have b2 := (Below.refl w1.heap.size w1).alloc (Nat.le_refl _) (.cells #[.pointer (some ⟨p, 0, none⟩), .slice none 0 0, .int .i64 0, .bool false] 56)
  exact ⟨w1.heap.size, p, g, rfl, ⟨Blk.new w1 _ _, hS.below b2, World.ownsRow_nil _ _ _ _, b1.size, fun x hx => by cases hx⟩, b1.trans (b2.mono b1.size)⟩
section
variable {w : World} {base q p g cap : Nat} {A : Option Addr} {M : List (List UInt8 × Int)} {fs : List Ft} {b : Int} {fr : Bool}
theorem mthere_yes (h : MemAt w base q p g A cap M fs b fr) : Calls Tryd.prog 22 #[.pointer (some ⟨q, 0, none⟩)] w fun e w' => e = .returned (.bool true) ∧ w = w' := by
  have hc := h.box.cell
  go_enter Tryd.func22, Tryd.ntmps22
  go_wp2
  go_ret
  exact ⟨rfl, rfl⟩
theorem mlen_any (h : MemAt w base q p g A cap M fs b fr) (n : Nat) (hn : fs.length = n) : Calls Tryd.prog 11 #[.pointer (some ⟨q, 0, none⟩)] w fun e w' => e = .returned (.int .i64 (n : Int)) ∧ w = w' := by
  have hc := h.box.cell
  have ht := mthere_yes h
  rw [hn] at hc
  clear h hn
  go_enter Tryd.func11, Tryd.ntmps11
  go_wp2_with fail
  refine ht.mono ?_
  clear ht
  rintro _ _ ⟨rfl, rfl⟩
  go_wp2
  go_ret
  exact ⟨rfl, rfl⟩
theorem mbytes_any (h : MemAt w base q p g A cap M fs b fr) : Calls Tryd.prog 12 #[.pointer (some ⟨q, 0, none⟩)] w fun e w' => e = .returned (.int .i64 b) ∧ w = w' := by
  have hc := h.box.cell
  have ht := mthere_yes h
  clear h
  go_enter Tryd.func12, Tryd.ntmps12
  go_wp2_with fail
  refine ht.mono ?_
  clear ht
  rintro _ _ ⟨rfl, rfl⟩
  go_wp2
  go_ret
  exact ⟨rfl, rfl⟩
theorem mfrozen_any (h : MemAt w base q p g A cap M fs b fr) : Calls Tryd.prog 14 #[.pointer (some ⟨q, 0, none⟩)] w fun e w' => e = .returned (.bool fr) ∧ w = w' := by
  have hc := h.box.cell
  have ht := mthere_yes h
  clear h
  go_enter Tryd.func14, Tryd.ntmps14
  go_wp2_with fail
  refine ht.mono ?_
  clear ht
  rintro _ _ ⟨rfl, rfl⟩
  go_wp2
  go_ret
  exact ⟨rfl, rfl⟩
theorem mfreeze_any (h : MemAt w base q p g A cap M fs b fr) : Calls Tryd.prog 8 #[.pointer (some ⟨q, 0, none⟩)] w fun e w' => e = .returned (.tuple #[]) ∧ MemAt w' base q p g A cap M fs b true ∧ KeepBut (fun k => k = q) w w' := by
  have hc := h.box.cell
  have hf := h.box.frozen
  have ht := mthere_yes h
  go_enter Tryd.func8, Tryd.ntmps8
  go_wp2_with fail
  refine ht.mono ?_
  clear ht
  rintro _ _ ⟨rfl, rfl⟩
  go_wp2
  go_end0
  have hty : ∀ (k : Nat) (cs : Array Value) (t : TypeId) (f : Nat × Nat), w.heap[k]? = some (.cells cs t f) → t ≠ 56 → ¬ (k = q) := fun k cs t f hkk ht e => by
    rw [e] at hkk
    have hb : w.heap[q]? = _ := h.box
    rw [hb] at hkk
    injection hkk with hkk
    injection hkk with _ h2 _
    exact ht h2.symm
  have hk := KeepBut.set_at w q 3 (.bool true)
  obtain ⟨⟨c1, f1, t1⟩, ⟨c2, f2, t2⟩⟩ := h.sk.types
  refine ⟨rfl, ⟨h.box.store 3 _, h.sk.keep hk (hty _ _ _ _ t1 (by decide)) (hty _ _ _ _ t2 (by decide)) (fun k cs fr2 hb => hty _ _ _ _ hb (by decide)), ?_, h.qb, h.ix⟩, hk⟩
  refine h.row.kept (row := some q) ⟨rfl, rfl, rfl, by simp, fun k _ hne => heap_setCell_other w ⟨q, 3, none⟩ k _ (fun e => hne (by rw [e]))⟩ (.inr (fun e => own_neF h.row h.box (by decide) e.symm))
end
end Go.Proofs.YtdifdbkbpeanhaaDoor
