/- Walk of the document's frames: part. -/
import Derived.Test.YtnjihcjijicgpaaDoorFrPut
import Derived.Test.YtnjihcjijicgpaaDoorSumsRef
set_option linter.unusedSimpArgs false
set_option linter.unusedVariables false
namespace Go.Proofs.YtnjihcjijicgpaaDoor
open Go Go.RowKit Herb

theorem own_lit (w : World) (base : Nat) (hb : base ≤ w.heap.size) (t : TypeId) (cs : Array Value) (n : Nat) (hn : cs.size = n) (hm : n ≤ 1000) : (w.alloc (.cells cs t)).ownsRow base t 1 (.slice (some ⟨w.heap.size, 0, none⟩) n n) n cs.toList :=
  ⟨by simp [hn], .inr ⟨w.heap.size, n, cs, rfl, hb, heap_alloc_new w _, Nat.le_refl _, by unfold maxLen; omega, by omega, by subst hn; rw [Nat.mul_one]; exact List.take_of_length_le (by simp)⟩⟩
set_option maxRecDepth 100000 in
set_option maxHeartbeats 1600000 in
theorem refPart_any (w : World) (k : UInt8) (A : Option Addr) (n c : Nat) (x : List UInt8) (hx : x.length = n) (hn : n ≤ 65536) (hb : Bs w A x) :
    Calls Tryd.prog 21 #[.int .u8 (k.toNat : Int), .slice A n c] w fun e w' => ∃ A' c', e = .returned (.slice A' (7 + n) c') ∧ w'.ownsRow w.heap.size 5 1 (.slice A' (7 + n) c') (7 + n) (bvs (Fr.part k x)) ∧ Below w.heap.size w w' := by
  have eT : #[Value.int .u8 ((n : Int) % 256), .int .u8 ((n : Int) / 256 % 256), .int .u8 (k.toNat : Int)] = (bvs (Fr.tail3 k n)).toArray := by
    simp [bvs, bv, Fr.tail3, UInt8.toNat_ofNat']
  obtain ⟨W1, hW1⟩ : ∃ W1, w.alloc (.cells #[Value.int .u8 ((n : Int) % 256), .int .u8 ((n : Int) / 256 % 256), .int .u8 (k.toNat : Int)] 5) = W1 := ⟨_, rfl⟩
  have bT : Bs W1 (some ⟨w.heap.size, 0, none⟩) (Fr.tail3 k n) := by rw [← hW1, eT]; exact Bs.new _ _ _ _
  have rT : Rd W1 1 (some ⟨w.heap.size, 0, none⟩) 3 (bvs (Fr.tail3 k n)) := bT
  have b1 : Below w.heap.size w W1 := by rw [← hW1]; exact (Below.refl _ _).alloc (Nat.le_refl _) _
  have hxb : Bs W1 A x := hb.below b1
  have rX : Rd W1 1 A n (bvs x) := by have h : Rd W1 1 A _ (bvs x) := hxb; rw [hx] at h; exact h
  have hs1 : W1.heap.size = w.heap.size + 1 := by rw [← hW1]; simp
  have rX5 : ∀ W5, Below w.heap.size w W5 → Rd W5 1 A n (bvs x) := fun W5 h => by have h : Rd W5 1 A _ (bvs x) := hb.below h; rw [hx] at h; exact h
  have oneT := bvs_one (Fr.tail3 k n)
  have oneX := bvs_one x
  obtain ⟨S, hS⟩ : ∃ S, Fr.sumT (Fr.tail3 k n) x = S := ⟨_, rfl⟩
  have hS32 : S < 4294967296 := by rw [← hS]; exact more_lt _ _
  have hSm : more 0 (Fr.tail3 k n ++ x) = S := by rw [← hS, more_append]; rfl
  have eL : #[Value.int .u8 ((S : Int) % 256), .int .u8 ((S : Int) / 256 % 256), .int .u8 ((S : Int) / 65536 % 256), .int .u8 ((S : Int) / 16777216)].toList = bvs (Fr.le4 S) := by
    simp [bvs, bv, Fr.le4, UInt8.toNat_ofNat']
    omega
  have oL : ∀ (W : World) (base : Nat), base ≤ W.heap.size → (W.alloc (.cells #[Value.int .u8 ((S : Int) % 256), .int .u8 ((S : Int) / 256 % 256), .int .u8 ((S : Int) / 65536 % 256), .int .u8 ((S : Int) / 16777216)] 5)).ownsRow base 5 1 (.slice (some ⟨W.heap.size, 0, none⟩) 4 4) 4 (bvs (Fr.le4 S)) := fun W base h => by
    rw [← eL]
    exact own_lit W base h _ _ 4 rfl (by omega)
  have hP : Fr.part k x = Fr.le4 S ++ Fr.tail3 k n ++ x := by unfold Fr.part Fr.head; rw [hx, hS]
  rw [hP]
  clear eT eL hS hP
  replace hx := Lib.hid hx
  replace rX5 := Lib.hid rX5
  replace oneT := Lib.hid oneT
  replace oneX := Lib.hid oneX
  replace oL := Lib.hid oL
  replace hSm := Lib.hid hSm
  replace hs1 := Lib.hid hs1
  go_enter Tryd.func21, Tryd.ntmps21
  go_wp2_with (first
    | (at_builtin; refine wpList_app W1 rfl (.const (.slice none 0 0)) (.tmp 18) rfl Tryd.underlying22 infoF8 rfl (by omega) (World.ownsRow_nil W1 W1.heap.size _ _) rfl _ 3 3 rT rfl oneT.out (by unfold maxLen; omega) (by omega) (Nat.le_refl _) ?_; intro v2 w2 hown2 hgrow2 _; have b2 : Below W1.heap.size W1 w2 := (Below.refl _ _).grown hgrow2 (Nat.le_refl _) (fun j hj => by simp [Value.ownBlock] at hj))
    | (at_builtin; refine wpList_app w2 rfl (.tmp 19) (.tmp 20) rfl Tryd.underlying22 infoF8 rfl (by omega) hown2 rfl A n c (rX.below b2) rfl oneX.out (by unfold maxLen; omega) (by omega) b2.size ?_; intro v3 w3 hown3 hgrow3 _; have b3 : Below W1.heap.size W1 w3 := below_app b2 hown2 (Nat.le_refl _) b2.size hgrow3)
    | fail)
  obtain ⟨A3, c3, rfl⟩ := own_slice hown3
  have hown3' : w3.ownsRow W1.heap.size 5 1 (.slice A3 (0 + 3 + n) c3) (0 + 3 + n) (bvs (Fr.tail3 k n ++ x)) := by rw [bvs_append]; exact hown3
  obtain ⟨hl3, bs3⟩ := Bs.of_own hown3'
  have po := refOf_any w3 A3 c3 (Fr.tail3 k n ++ x) (by rw [← hl3]; omega) bs3
  rw [← hl3, hSm.out] at po
  have rT3 := rT.below b3
  have rX3 := rX.below b3
  have b03 : Below w.heap.size w w3 := b1.trans (b3.mono b1.size)
  have o4 := oL.out w3 w.heap.size b03.size
  replace o4 := Lib.hid o4
  clear hown3 hown3' hown2 hgrow2 hgrow3 bs3 hl3
  refine po.mono ?_
  clear po
  rintro _ _ ⟨rfl, rfl⟩
  go_wp2_with (first
    | (at_builtin; refine wpList_app _ rfl (.tmp 35) (.tmp 36) rfl Tryd.underlying22 infoF8 rfl (by omega) o4.out rfl _ 3 3 (rT3.alloc _) rfl oneT.out (by unfold maxLen; omega) (by omega) (by have := b03.size; simp; omega) ?_; intro v5 w5 hown5 hgrow5 _; have b5 : Below w.heap.size w w5 := below_app (b03.alloc b03.size _) o4.out (Nat.le_refl _) (by have := b03.size; simp; omega) hgrow5)
    | (at_builtin; refine wpList_app w5 rfl (.tmp 37) (.tmp 38) rfl Tryd.underlying22 infoF8 rfl (by omega) hown5 rfl A n c (rX5.out w5 b5) rfl oneX.out (by unfold maxLen; omega) (by omega) b5.size ?_; intro v6 w6 hown6 hgrow6 _; have b6 : Below w.heap.size w w6 := below_app b5 hown5 (Nat.le_refl _) b5.size hgrow6)
    | fail)
  obtain ⟨A6, c6, rfl⟩ := own_slice hown6
  rw [← bvs_append, ← bvs_append] at hown6
  have e7 : 4 + 3 + n = 7 + n := by omega
  rw [e7] at hown6 ⊢
  go_ret
  exact ⟨A6, c6, rfl, hown6, b6⟩
end Go.Proofs.YtnjihcjijicgpaaDoor
