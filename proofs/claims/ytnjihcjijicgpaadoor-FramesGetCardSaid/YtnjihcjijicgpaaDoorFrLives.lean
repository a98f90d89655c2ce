/- Walks of what the statements of layer 5 share: no, lives; frames.Get in one contract. -/
import Derived.Test.YtnjihcjijicgpaaDoorFrGet
set_option linter.unusedSimpArgs false
set_option linter.unusedVariables false
namespace Go.Proofs.YtnjihcjijicgpaaDoor
open Go Go.RowKit Herb

theorem get_at (w : World) (A : Option Addr) (n c : Nat) (l : List UInt8) (hl : l.length = n) (hn : n ≤ 1000000) (hnc : n ≤ c) (hb : Bs w A l) (p : Nat) (hp : p ≤ n) (x : List UInt8) (ne er : Nat) (hres : Fr.get l p = (x, ne, er)) :
    Calls Tryd.prog 13 #[.slice A n c, .int .i64 (p : Int)] w fun e w' => ∃ A' k cap, e = .returned (.tuple #[.slice A' k k, .int .i64 (ne : Int), .int .i64 (er : Int)]) ∧ x.length = k ∧ w'.ownsRow w.heap.size 5 1 (.slice A' k cap) k (bvs x) ∧ Below w.heap.size w w' := by
  cases hz : Fr.allZ (l.drop p) with
  | true =>
    unfold Fr.get at hres
    rw [if_pos hz] at hres
    injection hres with h1 hres
    injection hres with h2 h3
    subst h1
    subst h2
    subst h3
    refine (get_noughts w A n c l hl hn hnc hb p hp none 0 hz).mono ?_
    rintro _ _ ⟨rfl, rfl⟩
    exact ⟨none, 0, 0, rfl, rfl, World.ownsRow_nil _ _ _ _, Below.refl _ _⟩
  | false =>
    unfold Fr.get at hres
    rw [if_neg (by rw [hz]; simp), hl] at hres
    exact get_any w A n c l hl hn hnc hb p hp hz x ne er hres

/-- no: there is none, by that error. -/
theorem no_yes (w : World) (A : Option Addr) (n c : Nat) (l : List UInt8) (hl : l.length = n) (hn : n ≤ 1000000) (hnc : n ≤ c) (hb : Bs w A l) (p : Nat) (hp : p ≤ n) (er : Nat) (hres : Fr.get l p = ([], 0, er)) :
    Calls Tryd.prog 15 #[.slice A n c, .int .i64 (p : Int), .int .i64 (er : Int)] w fun e w' => e = .returned (.bool true) ∧ Below w.heap.size w w' := by
  have pc := get_at w A n c l hl hn hnc hb p hp [] 0 er hres
  replace pc := Lib.hid pc
  clear hres hl
  go_enter Tryd.func15, Tryd.ntmps15
  go_wp2_with fail
  refine pc.out.mono ?_
  rintro _ w1 ⟨A', k, cap, rfl, hk, hown, b1⟩
  have hk0 : k = 0 := hk.symm
  subst hk0
  clear hk hown pc
  go_wp2
  go_ret
  exact ⟨rfl, b1⟩

theorem put0 : Fr.put 0 [] = Fr.le4 (Fr.sumT [0, 0, 1] []) ++ [0, 0, 1] := rfl
theorem put250 : Fr.put 250 [7] = [0, 0, 0, 0, 0, 0] ++ Fr.le4 (Fr.sumT [1, 0, 1] [7]) ++ [1, 0, 1, 7] := rfl
set_option maxRecDepth 100000 in
set_option maxHeartbeats 3200000 in
theorem lives_any (w : World) : Calls Tryd.prog 5 #[] w fun e w' => e = .returned (.bool true) ∧ Below w.heap.size w w' := by
  go_enter Tryd.func5, Tryd.ntmps5
  go_wp2_with fail
  refine (put_any w 0 (by omega) none 0 0 [] rfl (by omega) (by omega) (Bs.nil_ _ _)).mono ?_
  rintro _ w1 ⟨g1, k1, cp1, rfl, hk1, hown1, b1⟩
  have hk7 : k1 = 7 := hk1.symm
  subst hk7
  have bs1 : Bs w1 (some ⟨g1, 0, none⟩) (Fr.put 0 []) := Bs.of_own hown1 |>.2
  clear hk1 hown1
  go_wp2_with fail
  refine (put_any _ 250 (by omega) _ 1 1 [7] rfl (by omega) (by omega) (Bs.new w1 5 [7] (0, 0))).mono ?_
  rintro _ w2 ⟨g2, k2, cp2, rfl, hk2, hown2, b2⟩
  have hk14 : k2 = 14 := hk2.symm
  subst hk14
  have bs2 : Bs w2 (some ⟨g2, 0, none⟩) (Fr.put 250 [7]) := Bs.of_own hown2 |>.2
  have b02 : Below w1.heap.size w1 w2 := ((Below.refl w1.heap.size w1).alloc (Nat.le_refl _) _).trans (b2.mono (by simp))
  replace bs1 := bs1.below b02
  replace b1 := b1.trans (b02.mono b1.size)
  clear hk2 hown2 b2 b02
  go_wp2_with fail
  refine (put_neg w2 (-1) (by omega) none 0 0).mono ?_
  rintro _ _ ⟨rfl, rfl⟩
  have e1 : Bs w2 (some ⟨g1, 4, none⟩) [0, 0, 1] := by
    have h := bs1.cut (k := 4) (m := 3) (by decide)
    exact h
  have e2 : Bs w2 (some ⟨g2, 0, none⟩) [0, 0, 0, 0, 0, 0] := bs2.take 6
  have e3 : Bs w2 (some ⟨g2, 10, none⟩) [1, 0, 1, 7] := by
    have h := bs2.cut (k := 10) (m := 4) (by decide)
    exact h
  have k1 := run_str (P := Tryd.prog) e1 22 9 5 Tryd.underlying22 Tryd.underlying5 Tryd.underlying9 3 3 rfl
  have k2 := run_str (P := Tryd.prog) e2 22 9 5 Tryd.underlying22 Tryd.underlying5 Tryd.underlying9 6 14 rfl
  have k3 := run_str (P := Tryd.prog) e3 22 9 5 Tryd.underlying22 Tryd.underlying5 Tryd.underlying9 4 4 rfl
  clear e1 e2 e3
  go_wp2_with fail
  have hg0 : Fr.get (Fr.put 0 []) 0 = ([], 7, 0) := Fr.get_put 0 [] (Fr.put 0 []) [] (by rw [List.append_nil]; rfl) (by decide)
  refine (get_at w2 _ 7 7 (Fr.put 0 []) rfl (by omega) (by omega) bs1 0 (by omega) [] 7 0 hg0).mono ?_
  clear k1 k2 k3 hg0 bs2
  rintro _ w3 ⟨A3, k3, cp3, rfl, hk3, _, b3⟩
  have hk0 : k3 = 0 := hk3.symm
  subst hk0
  replace bs1 := bs1.below b3
  replace b1 := b1.trans (b3.mono b1.size)
  clear hk3 b3
  go_wp2_with fail
  refine (no_yes w3 _ 7 7 (Fr.put 0 []) rfl (by omega) (by omega) bs1 7 (by omega) 7 (Fr.get_none _ _ (by decide))).mono ?_
  rintro _ w4 ⟨rfl, b4⟩
  replace b1 := b1.trans (b4.mono b1.size)
  clear b4 bs1
  go_wp2_with fail
  refine (no_yes w4 none 0 0 [] rfl (by omega) (by omega) (Bs.nil_ _ _) 0 (by omega) 7 (Fr.get_none _ _ (by decide))).mono ?_
  rintro _ w5 ⟨rfl, b5⟩
  replace b1 := b1.trans (b5.mono b1.size)
  clear b5
  have hmk := fun W => make_one (P := Tryd.prog) Tryd.underlying22 infoF8 rfl 3 3 (by omega) (by omega) (by omega) W
  go_wp2_with fail
  clear hmk
  refine (no_yes _ _ 3 3 [0, 0, 0] rfl (by omega) (by omega) (Bs.new w5 5 [0, 0, 0] (0, 0)) 1 (by omega) 7 (by decide)).mono ?_
  rintro _ w6 ⟨rfl, b6⟩
  have b6' := ((Below.refl w5.heap.size w5).alloc (Nat.le_refl _) _).trans (b6.mono (by simp))
  replace b1 := b1.trans (b6'.mono b1.size)
  clear b6 b6'
  go_wp2_with fail
  refine (no_yes _ _ 1 1 [5] rfl (by omega) (by omega) (Bs.new w6 5 [5] (0, 0)) 0 (by omega) 5 (by decide)).mono ?_
  rintro _ w7 ⟨rfl, b7⟩
  have b7' := ((Below.refl w6.heap.size w6).alloc (Nat.le_refl _) _).trans (b7.mono (by simp))
  go_wp2
  go_ret
  exact ⟨rfl, b1.trans (b7'.mono b1.size)⟩
end Go.Proofs.YtnjihcjijicgpaaDoor
