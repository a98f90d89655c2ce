/- Walk of the document's Get (layer 7). -/
import Derived.Test.YtccbldlnfaiphaaDoorOpRefH
import Derived.Test.YtccbldlnfaiphaaDoorStr
set_option linter.unusedSimpArgs false
set_option linter.unusedVariables false
namespace Herb.Cm
open Herb Go
theorem gText_sz (st : St) (N : Nat) (h : ∀ r, st = some r → r.length ≤ N) : (gText st).1.size ≤ N := by
  unfold gText
  rcases st with _ | l
  · simp
  · simp only [Option.bind_some]
    rcases hr : rdT l with _ | ⟨s, r⟩
    · simp
    · have h1 := (rdT_some hr).1
      have h2 := h l rfl
      rw [h1, List.length_append] at h2
      have h3 : (encS s).length = (enc s.size).length + s.size := by unfold encS; rw [List.length_append]; rfl
      simp only
      omega
theorem guess_sz (l : List UInt8) : (guess l).2.br.size ≤ l.length ∧ (guess l).2.ot.size ≤ l.length := by
  have h1 := gRead_le (some l)
  have h2 := h1.trans (gOne_le _)
  have h3 : Le (some l) (gText (gOne (gRead (some l)).2).2).2 := h2.trans fun r e => by
    obtain ⟨l, e1, h⟩ := gText_le _ r e
    exact ⟨l, e1, by omega⟩
  refine ⟨gText_sz _ _ (fun r e => ?_), ?_⟩
  · obtain ⟨l', e1, h⟩ := h2 r e
    cases e1
    exact h
  · unfold guess
    simp only
    split
    · refine gText_sz _ _ (fun r e => ?_)
      obtain ⟨l', e1, h⟩ := h3 r e
      cases e1
      exact h
    · simp
end Herb.Cm
namespace Go.Proofs.YtccbldlnfaiphaaDoor
open Go Go.RowKit Herb Herb.Cm

/-- What the document's Get answers. -/
def RG (w : World) (x : Option (Nat × Rec)) (e : Ending) (w' : World) : Prop := Below w.heap.size w w' ∧ (match x with
  | none => e = .returned (.tuple #[.int .u64 0, .agg #[.int .u8 0, .string ⟨#[]⟩, .string ⟨#[]⟩, .int .u64 0, .slice none 0 0], .int .i64 4])
  | some (s, o) => ∃ A' k c, e = .returned (.tuple #[.int .u64 (s : Int), .agg #[.int .u8 (o.kind : Int), .string o.br, .string o.ot, .int .u64 (o.pl : Int), .slice A' k c], .int .i64 0]) ∧ o.cs.length = k ∧ Cs w' A' o.cs)
theorem RG.no {w w' : World} {x : Option (Nat × Rec)} (h : x = none) (hB : Below w.heap.size w w') : RG w x (.returned (.tuple #[.int .u64 0, .agg #[.int .u8 0, .string ⟨#[]⟩, .string ⟨#[]⟩, .int .u64 0, .slice none 0 0], .int .i64 4])) w' := by
  subst h; exact ⟨hB, rfl⟩
/-- Behind five stores into a result's block. -/
theorem fin5 {w W : World} {P : Nat} {x0 x1 x2 x3 x4 : Value} (k b o p ch : Value) (h0 : Blk W P 26 #[x0, x1, x2, x3, x4]) (hB : Below w.heap.size w W) (hP : w.heap.size ≤ P) :
    Blk (((((W.setCell ⟨P, 0, none⟩ k).setCell ⟨P, 1, none⟩ b).setCell ⟨P, 2, none⟩ o).setCell ⟨P, 3, none⟩ p).setCell ⟨P, 4, none⟩ ch) P 26 #[k, b, o, p, ch] ∧
    Below w.heap.size w (((((W.setCell ⟨P, 0, none⟩ k).setCell ⟨P, 1, none⟩ b).setCell ⟨P, 2, none⟩ o).setCell ⟨P, 3, none⟩ p).setCell ⟨P, 4, none⟩ ch) := by
  have h1 := h0.store 0 k
  have h2 := h1.store 1 b
  have h3 := h2.store 2 o
  have h4 := h3.store 3 p
  have h5 := h4.store 4 ch
  have g1 := hB.setCell (p := ⟨P, 0, none⟩) hP k
  have g2 := g1.setCell (p := ⟨P, 1, none⟩) hP b
  have g3 := g2.setCell (p := ⟨P, 2, none⟩) hP o
  have g4 := g3.setCell (p := ⟨P, 3, none⟩) hP p
  have g5 := g4.setCell (p := ⟨P, 4, none⟩) hP ch
  exact ⟨h5, g5⟩
theorem own_fin5 {W : World} {P base size n : Nat} {e : TypeId} {v : Value} {xs : List Value} (k b o p ch : Value) (h : W.ownsRow base e size v n xs) (hP : P < base) : (((((W.setCell ⟨P, 0, none⟩ k).setCell ⟨P, 1, none⟩ b).setCell ⟨P, 2, none⟩ o).setCell ⟨P, 3, none⟩ p).setCell ⟨P, 4, none⟩ ch).ownsRow base e size v n xs := by
  have h1 := own_set (g := P) (i := 0) h k hP
  have h2 := own_set (g := P) (i := 1) h1 b hP
  have h3 := own_set (g := P) (i := 2) h2 o hP
  have h4 := own_set (g := P) (i := 3) h3 p hP
  exact own_set (g := P) (i := 4) h4 ch hP

set_option maxRecDepth 100000 in
set_option maxHeartbeats 6400000 in
theorem refOpGet_any (w : World) (A : Option Addr) (n c : Nat) (l : List UInt8) (hln : l.length = n) (hnc : n ≤ c) (hn : n ≤ 90000) (hb : Bs w A l) :
    Calls Tryd.prog 22 #[.slice A n c] w fun e w' => RG w (parse l) e w' := by
  obtain ⟨x, hx⟩ : ∃ x, parse l = x := ⟨_, rfl⟩
  rw [hx]
  rw [← refGet_parse] at hx
  unfold refGet at hx
  rw [hln] at hx
  have gf := guess_fit l
  have gz := guess_sz l
  have k0 := Blk.new w 26 #[.int .u8 0, .string ⟨#[]⟩, .string ⟨#[]⟩, .int .u64 0, .slice none 0 0]
  have hB0 := (Below.refl w.heap.size w).alloc (Nat.le_refl _) (.cells #[.int .u8 0, .string ⟨#[]⟩, .string ⟨#[]⟩, .int .u64 0, .slice none 0 0] 26)
  obtain ⟨W0, hW0⟩ : ∃ W0, w.alloc (.cells #[.int .u8 0, .string ⟨#[]⟩, .string ⟨#[]⟩, .int .u64 0, .slice none 0 0] 26) = W0 := ⟨_, rfl⟩
  have hs0 : W0.heap.size = w.heap.size + 1 := by rw [← hW0]; simp
  rw [hW0] at k0 hB0
  have cg := refGuess_any W0 A n c l hln hnc (by omega) (hb.below hB0)
  have hb0 := hb.below hB0
  by_cases hbig : 65536 < n
  · rw [if_pos hbig] at hx
    have hxx : x = none := hx.symm
    replace hxx := Lib.hid hxx
    have d : decide ((65536 : Int) < (n : Int)) = true := decide_eq_true (by omega)
    clear hx cg gf gz
    replace hln := Lib.hid hln
    have c0 := k0.cell
    have z0 := k0.frozen
    replace hs0 := Lib.hid hs0
    go_enter Tryd.func22, Tryd.ntmps22
    go_wp2
    obtain ⟨f1, f2⟩ := fin5 (.int .u8 0) (.string ⟨#[]⟩) (.string ⟨#[]⟩) (.int .u64 0) (.slice none 0 0) k0 hB0 (Nat.le_refl _)
    exact bodyPost_ret (v := .tuple #[.int .u64 0, .agg #[.int .u8 0, .string ⟨#[]⟩, .string ⟨#[]⟩, .int .u64 0, .slice none 0 0], .int .i64 4]) (results_tct (p := 3) (q := 2) (r := 4) rfl _ w.heap.size rfl f1 Tryd.underlying26 rfl opSz) rfl (RG.no hxx.out f2)
  rw [if_neg hbig] at hx
  have d : decide ((65536 : Int) < (n : Int)) = false := decide_eq_false (by omega)
  obtain ⟨G, hG⟩ : ∃ G, guess l = G := ⟨_, rfl⟩
  rw [hG] at cg hx gf gz
  obtain ⟨gs, gk, gb, go, gp, gc⟩ := G
  simp only at cg hx gf gz
  obtain ⟨gf1, ⟨gf2, gf3, gf4⟩, gf5⟩ := gf
  simp only at gf2 gf3 gf4 gf5
  rw [hln] at gf5 gz
  obtain ⟨gz1, gz2⟩ := gz
  clear hG hbig
  have hW0' := Lib.hid hW0
  clear hW0
  have hln' := Lib.hid hln
  replace hs0 := Lib.hid hs0
  replace hx := Lib.hid hx
  go_enter Tryd.func22, Tryd.ntmps22
  clear hln
  go_wp2_with (first | rw [hW0'.out] | fail)
  refine cg.mono ?_
  clear cg
  rintro _ W1 ⟨v, k, rfl, hk, own, b1⟩
  obtain ⟨A1, cap, rfl⟩ := own_slice own
  have hB1 := hB0.trans (b1.mono hB0.size)
  have k1 := k0.below b1 k0.lt
  obtain ⟨W2, hW2⟩ : ∃ W2, W1.alloc (.cells #[.int .u8 (gk : Int), .string gb, .string go, .int .u64 (gp : Int), .slice A1 k cap] 26) = W2 := ⟨_, rfl⟩
  have b2 : Below W1.heap.size W1 W2 := by rw [← hW2]; exact (Below.refl _ _).alloc (Nat.le_refl _) _
  have t2 : Blk W2 W1.heap.size 26 #[.int .u8 (gk : Int), .string gb, .string go, .int .u64 (gp : Int), .slice A1 k cap] := by rw [← hW2]; exact Blk.new W1 _ _
  have hB2 := hB1.trans (b2.mono hB1.size)
  have k2 := k1.below b2 k1.lt
  have own2 := own_below own b2
  have hcs2 : Cs W2 A1 gc := by
    have h := Rd.of_own own2
    unfold Cs
    rw [hk]
    exact h
  obtain ⟨R, hR⟩ : ∃ R, putR gs ⟨gk, gb, go, gp, gc⟩ = R := ⟨_, rfl⟩
  obtain ⟨E, hE⟩ : ∃ E, putE gs ⟨gk, gb, go, gp, gc⟩ = E := ⟨_, rfl⟩
  have pr := refOpPut_any W2 gs gf1 gk gb go gp A1 k cap gc hk (by omega) hcs2 (by omega) (by omega) gf3 gf4
  rw [hR, hE] at pr
  have hbs := hb.below hB2
  have hcase : (R = 0 ∧ E = l ∧ x = some (gs, ⟨gk, gb, go, gp, gc⟩)) ∨ (R = 0 ∧ E ≠ l ∧ x = none) ∨ ((R == 0) = false ∧ x = none) := by
    have hx := hx.out
    unfold putR at hR
    unfold putE at hE
    by_cases h1 : chk ⟨gk, gb, go, gp, gc⟩ = false ∨ gs = 0
    · rw [if_pos h1] at hR
      refine .inr (.inr ⟨by rw [← hR]; rfl, ?_⟩)
      rw [← hx, if_neg (fun h => h1.elim (fun e => by rw [e] at h; exact absurd h.2.1 (by simp)) (fun e => h.1 e))]
    · rw [if_neg h1] at hR
      have hc1 : chk ⟨gk, gb, go, gp, gc⟩ = true := by
        cases hc : chk ⟨gk, gb, go, gp, gc⟩
        · exact absurd (.inl hc) h1
        · rfl
      have hs1 : gs ≠ 0 := fun h => h1 (.inr h)
      by_cases h2 : 65536 < (encOp gs ⟨gk, gb, go, gp, gc⟩).length
      · rw [if_pos h2] at hR
        refine .inr (.inr ⟨by rw [← hR]; rfl, ?_⟩)
        rw [← hx, if_neg (fun h => by have := h.2.2.1; omega)]
      · rw [if_neg h2] at hR
        rw [if_pos ⟨hc1, hs1, by omega⟩] at hE
        by_cases h3 : E = l
        · exact .inl ⟨hR.symm, h3, by rw [← hx, if_pos ⟨hs1, hc1, by omega, by rw [hE]; exact h3⟩]⟩
        · exact .inr (.inl ⟨hR.symm, h3, by rw [← hx, if_neg (fun h => h3 (by rw [← hE]; exact h.2.2.2))]⟩)
  clear hR hE hx
  replace hk := Lib.hid hk
  have c2 := t2.cell
  go_wp2_with fail
  replace hW2 := Lib.hid hW2
  refine pr.mono ?_
  clear pr c2
  rintro _ W3 ⟨A3, k3, c3, rfl, hk3, hkc3, hbs3, b3⟩
  have hB3 := hB2.trans (b3.mono hB2.size)
  have k3' := k2.below b3 k2.lt
  have t3 := t2.below b3 t2.lt
  have own3 := own_below own2 b3
  have hs1 := b1.size
  have hne : w.heap.size ≠ W1.heap.size := by have := hs0.out; omega
  have s1 := run_str (P := Tryd.prog) hbs3 30 9 5 Tryd.underlying30 Tryd.underlying5 Tryd.underlying9 k3 c3 hk3
  have s2 := run_str (P := Tryd.prog) (hbs.below b3) 30 9 5 Tryd.underlying30 Tryd.underlying5 Tryd.underlying9 n c hln'.out
  clear b1 b2 b3 t2 own2 own hcs2 k2 k1 hbs hbs3
  rcases hcase with ⟨rfl, rfl, hx2⟩ | ⟨rfl, hne2, hx2⟩ | ⟨hr, hx2⟩
  · obtain ⟨sl, hsl⟩ : ∃ sl : ByteArray, ⟨E.toArray⟩ = sl := ⟨_, rfl⟩
    rw [hsl] at s1 s2
    replace hsl := Lib.hid hsl
    replace hx2 := Lib.hid hx2
    replace hk3 := Lib.hid hk3
    have c3 := t3.cell
    have d3 := k3'.cell
    have z3 := k3'.frozen
    go_wp2_with fail
    go_region
    go_wp2
    obtain ⟨f1, f2⟩ := fin5 (.int .u8 (gk : Int)) (.string gb) (.string go) (.int .u64 (gp : Int)) (.slice A1 k cap) k3' hB3 (Nat.le_refl _)
    have own4 := own_fin5 (P := w.heap.size) (.int .u8 (gk : Int)) (.string gb) (.string go) (.int .u64 (gp : Int)) (.slice A1 k cap) own3 (by have := hs0.out; omega)
    have hcs4 := Rd.of_own (own_drew own4)
    refine bodyPost_ret (v := .tuple #[.int .u64 (gs : Int), .agg #[.int .u8 (gk : Int), .string gb, .string go, .int .u64 (gp : Int), .slice A1 k cap], .int .i64 0]) (results_tct (p := 3) (q := 2) (r := 4) rfl _ w.heap.size rfl f1.drew Tryd.underlying26 rfl opSz) rfl ⟨f2.drew, ?_⟩
    rw [hx2.out]
    exact ⟨A1, k, cap, rfl, hk.out, by unfold Cs; rw [hk.out]; exact hcs4⟩
  · obtain ⟨sl, hsl⟩ : ∃ sl : ByteArray, ⟨E.toArray⟩ = sl := ⟨_, rfl⟩
    obtain ⟨sr, hsr⟩ : ∃ sr : ByteArray, ⟨l.toArray⟩ = sr := ⟨_, rfl⟩
    have hq : (sl.toList == sr.toList) = false := by
      rw [ba_list, ba_list, ← hsl, ← hsr]
      simpa using hne2
    rw [hsl] at s1
    rw [hsr] at s2
    replace hsl := Lib.hid hsl
    replace hsr := Lib.hid hsr
    replace hx2 := Lib.hid hx2
    replace hk3 := Lib.hid hk3
    replace hne2 := Lib.hid hne2
    have d3 := k3'.cell
    have z3 := k3'.frozen
    go_wp2_with fail
    obtain ⟨f1, f2⟩ := fin5 (.int .u8 0) (.string ⟨#[]⟩) (.string ⟨#[]⟩) (.int .u64 0) (.slice none 0 0) k3' hB3 (Nat.le_refl _)
    exact bodyPost_ret (v := .tuple #[.int .u64 0, .agg #[.int .u8 0, .string ⟨#[]⟩, .string ⟨#[]⟩, .int .u64 0, .slice none 0 0], .int .i64 4]) (results_tct (p := 3) (q := 2) (r := 4) rfl _ w.heap.size rfl f1 Tryd.underlying26 rfl opSz) rfl (RG.no hx2.out f2)
  · have hr2 : (R != 0) = true := by unfold bne; rw [hr]; rfl
    replace hx2 := Lib.hid hx2
    replace hk3 := Lib.hid hk3
    have d3 := k3'.cell
    have z3 := k3'.frozen
    go_wp2_with fail
    obtain ⟨f1, f2⟩ := fin5 (.int .u8 0) (.string ⟨#[]⟩) (.string ⟨#[]⟩) (.int .u64 0) (.slice none 0 0) k3' hB3 (Nat.le_refl _)
    exact bodyPost_ret (v := .tuple #[.int .u64 0, .agg #[.int .u8 0, .string ⟨#[]⟩, .string ⟨#[]⟩, .int .u64 0, .slice none 0 0], .int .i64 4]) (results_tct (p := 3) (q := 2) (r := 4) rfl _ w.heap.size rfl f1 Tryd.underlying26 rfl opSz) rfl (RG.no hx2.out f2)
end Go.Proofs.YtccbldlnfaiphaaDoor
