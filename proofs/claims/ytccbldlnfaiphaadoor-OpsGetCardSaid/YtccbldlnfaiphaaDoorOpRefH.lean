/- Walk of the document's guess (layer 7). -/
import Derived.Test.YtccbldlnfaiphaaDoorOpRefG
import Derived.Test.YtccbldlnfaiphaaDoorApp
set_option linter.unusedSimpArgs false
set_option linter.unusedVariables false
namespace Herb.Cm
open Herb Go Go.RowKit
theorem results_tc {P : Program} {w : World} {fn : Func} {p q : Tmp} {ty : TypeId} (h : fn.results = #[.tmp q, .cell p ty]) (tmps : Array Value) (g : Nat) {t : TypeId} {cs : Array Value} {d : TypeDesc}
    (hp : tmps.getD p undef = .pointer (some ⟨g, 0, none⟩)) (hg : Blk w g t cs)
    (hu : P.underlying ty = some d) (hd : (match d with | .struct _ | .array _ _ => true | _ => false) = true) (hi : (P.info? ty).map (·.size) = some cs.size) :
    (results fn tmps).run P w = .ok (.tuple #[tmps.getD q undef, .agg cs]) w := by
  have hp' : tmps[p]?.getD undef = .pointer (some ⟨g, 0, none⟩) := by simpa using hp
  simp [results, h, hp', asAddr, run_loadVar_row w g t ty cs (0, 0) d hg hu hd hi]
theorem results_tct {P : Program} {w : World} {fn : Func} {p q r : Tmp} {ty : TypeId} (h : fn.results = #[.tmp q, .cell p ty, .tmp r]) (tmps : Array Value) (g : Nat) {t : TypeId} {cs : Array Value} {d : TypeDesc}
    (hp : tmps.getD p undef = .pointer (some ⟨g, 0, none⟩)) (hg : Blk w g t cs)
    (hu : P.underlying ty = some d) (hd : (match d with | .struct _ | .array _ _ => true | _ => false) = true) (hi : (P.info? ty).map (·.size) = some cs.size) :
    (results fn tmps).run P w = .ok (.tuple #[tmps.getD q undef, .agg cs, tmps.getD r undef]) w := by
  have hp' : tmps[p]?.getD undef = .pointer (some ⟨g, 0, none⟩) := by simpa using hp
  simp [results, h, hp', asAddr, run_loadVar_row w g t ty cs (0, 0) d hg hu hd hi]
end Herb.Cm
namespace Go.Proofs.YtccbldlnfaiphaaDoor
open Go Go.RowKit Herb Herb.Cm

/-- The result's block, and the op's. -/
structure G2 (w W : World) (P : Nat) (k b o p ch : Value) : Prop where
  b0 : Blk W P 26 #[.int .u8 0, .string ⟨#[]⟩, .string ⟨#[]⟩, .int .u64 0, .slice none 0 0]
  b1 : Blk W (P + 1) 26 #[k, b, o, p, ch]
  bw : Below w.heap.size w W
  sz : w.heap.size = P
section
variable {w W W' : World} {P : Nat} {k b o p ch : Value}
theorem G2.below (h : G2 w W P k b o p ch) (g : Below W.heap.size W W') : G2 w W' P k b o p ch := ⟨h.b0.below g h.b0.lt, h.b1.below g h.b1.lt, h.bw.trans (g.mono h.bw.size), h.sz⟩
theorem G2.set1 (h : G2 w W P k b o p ch) {i : Nat} {v : Value} {k' b' o' p' ch' : Value} (e : (#[k, b, o, p, ch] : Array Value).setIfInBounds i v = #[k', b', o', p', ch']) : G2 w (W.setCell ⟨P + 1, i, none⟩ v) P k' b' o' p' ch' :=
  ⟨h.b0.far (by show P ≠ P + 1; omega) v, e ▸ h.b1.store i v, h.bw.setCell (p := ⟨P + 1, i, none⟩) (by have := h.sz; show w.heap.size ≤ P + 1; omega) v, h.sz⟩
theorem G2.far (h : G2 w W P k b o p ch) {q : Addr} (hq : P + 1 < q.block) (v : Value) : G2 w (W.setCell q v) P k b o p ch :=
  ⟨h.b0.far (by omega) v, h.b1.far (by omega) v, h.bw.setCell (by have := h.sz; omega) v, h.sz⟩
theorem G2.grownR {row : Option Nat} (h : G2 w W P k b o p ch) (g : W.grownBy W' row) (hr : ∀ j, row = some j → P + 2 ≤ j) : G2 w W' P k b o p ch :=
  ⟨h.b0.grown g (fun e => by have := hr P e.symm; omega), h.b1.grown g (fun e => by have := hr (P + 1) e.symm; omega), h.bw.grown g h.bw.size (fun j hj => by have := hr j hj; have := h.sz; omega), h.sz⟩
theorem G2.lt (h : G2 w W P k b o p ch) : P + 2 ≤ W.heap.size := h.b1.lt
end
theorem own_off {w : World} {base n size g i : Nat} {e : TypeId} {v : Value} {xs : List Value} (h : w.ownsRow base e size v n xs) (u : Value) (hne : ∀ j, v.ownBlock = some j → j ≠ g) : (w.setCell ⟨g, i, none⟩ u).ownsRow base e size v n xs :=
  h.kept (only_store (World.grownBy.refl w (some g)) (p := ⟨g, i, none⟩) rfl u) (by
    cases hv : v.ownBlock with
    | none => exact .inl rfl
    | some k => exact .inr (fun e => hne k hv (by injection e)))
theorem own_set {w : World} {base n size g i : Nat} {e : TypeId} {v : Value} {xs : List Value} (h : w.ownsRow base e size v n xs) (u : Value) (hlt : g < base) : (w.setCell ⟨g, i, none⟩ u).ownsRow base e size v n xs :=
  own_far h (only_store (World.grownBy.refl w (some g)) (p := ⟨g, i, none⟩) rfl u) hlt
theorem G2.fin {w W : World} {P : Nat} {k b o p ch : Value} (h : G2 w W P k b o p ch) :
    Blk (((((W.setCell ⟨P, 0, none⟩ k).setCell ⟨P, 1, none⟩ b).setCell ⟨P, 2, none⟩ o).setCell ⟨P, 3, none⟩ p).setCell ⟨P, 4, none⟩ ch).drew P 26 #[k, b, o, p, ch] ∧
    Below w.heap.size w (((((W.setCell ⟨P, 0, none⟩ k).setCell ⟨P, 1, none⟩ b).setCell ⟨P, 2, none⟩ o).setCell ⟨P, 3, none⟩ p).setCell ⟨P, 4, none⟩ ch).drew :=
  ⟨(((((h.b0.store 0 k).store 1 b).store 2 o).store 3 p).store 4 ch).drew, (((((h.bw.setCell (p := ⟨P, 0, none⟩) (Nat.le_of_eq h.sz) k).setCell (p := ⟨P, 1, none⟩) (Nat.le_of_eq h.sz) b).setCell (p := ⟨P, 2, none⟩) (Nat.le_of_eq h.sz) o).setCell (p := ⟨P, 3, none⟩) (Nat.le_of_eq h.sz) p).setCell (p := ⟨P, 4, none⟩) (Nat.le_of_eq h.sz) ch).drew⟩
theorem own_drew {w : World} {base n size : Nat} {e : TypeId} {v : Value} {xs : List Value} (h : w.ownsRow base e size v n xs) : w.drew.ownsRow base e size v n xs := h
theorem own_fin {W : World} {P size n : Nat} {e : TypeId} {v : Value} {xs : List Value} (k b o p ch : Value) (h : W.ownsRow (P + 2) e size v n xs) (B : Nat) (hB : B ≤ P + 2) : (((((W.setCell ⟨P, 0, none⟩ k).setCell ⟨P, 1, none⟩ b).setCell ⟨P, 2, none⟩ o).setCell ⟨P, 3, none⟩ p).setCell ⟨P, 4, none⟩ ch).drew.ownsRow B e size v n xs := by
  have h1 := own_set (g := P) (i := 0) h k (by omega)
  have h2 := own_set (g := P) (i := 1) h1 b (by omega)
  have h3 := own_set (g := P) (i := 2) h2 o (by omega)
  have h4 := own_set (g := P) (i := 3) h3 p (by omega)
  have h5 := own_set (g := P) (i := 4) h4 ch (by omega)
  have h6 := own_drew h5
  exact own_base h6 hB

set_option maxRecDepth 100000 in
set_option maxHeartbeats 12800000 in
theorem refGuess_any (w : World) (A : Option Addr) (n c : Nat) (l : List UInt8) (hln : l.length = n) (hnc : n ≤ c) (hn : n ≤ 1000000) (hb : Bs w A l) :
    Calls Tryd.prog 50 #[.slice A n c] w fun e w' => ∃ v k, e = .returned (.tuple #[.int .u64 ((guess l).1 : Int), .agg #[.int .u8 ((guess l).2.kind : Int), .string (guess l).2.br, .string (guess l).2.ot, .int .u64 ((guess l).2.pl : Int), v]]) ∧
      (guess l).2.cs.length = k ∧ w'.ownsRow w.heap.size 51 4 v k (chC (guess l).2.cs) ∧ Below w.heap.size w w' := by
  have hcsl := (guess_fit l).2.2
  have hsl := (guess_fit l).1
  obtain ⟨G, hG⟩ : ∃ G, guess l = G := ⟨_, rfl⟩
  rw [hG] at hcsl hsl ⊢
  obtain ⟨gs, gk, gb, go, gp, gc⟩ := G
  simp only at hcsl hsl ⊢
  unfold guess at hG
  simp only [Prod.mk.injEq, Rec.mk.injEq] at hG
  obtain ⟨e1, e2, e3, e4, e5, e6⟩ := hG
  rw [hln] at hcsl
  obtain ⟨P, hP⟩ : ∃ P, w.heap.size = P := ⟨_, rfl⟩
  obtain ⟨W0, hW0⟩ : ∃ W0, (w.alloc (.cells #[.int .u8 0, .string ⟨#[]⟩, .string ⟨#[]⟩, .int .u64 0, .slice none 0 0] 26)).alloc (.cells #[.int .u8 0, .string ⟨#[]⟩, .string ⟨#[]⟩, .int .u64 0, .slice none 0 0] 26) = W0 := ⟨_, rfl⟩
  have q0 : G2 w W0 P (.int .u8 0) (.string ⟨#[]⟩) (.string ⟨#[]⟩) (.int .u64 0) (.slice none 0 0) := by
    have e1 : (w.alloc (.cells #[.int .u8 0, .string ⟨#[]⟩, .string ⟨#[]⟩, .int .u64 0, .slice none 0 0] 26)).heap.size = P + 1 := by rw [← hP]; simp
    rw [← hW0]
    refine ⟨?_, ?_, (((Below.refl w.heap.size w).alloc (Nat.le_refl _) _).alloc (by simp) _), hP⟩
    · rw [← hP]; exact (Blk.new w 26 _).alloc _
    · rw [← e1]; exact Blk.new _ 26 _
  have hbB := fun W (hB : Below w.heap.size w W) => hb.below hB
  have cR := fun W (hB : Below w.heap.size w W) v st (hv : AtIs l v st) => read_any W A n c l hln hnc hn (hb.below hB) v st hv
  have cT := fun W (hB : Below w.heap.size w W) v st (hv : AtIs l v st) => text_any W A n c l hln hnc hn (hb.below hB) v st hv
  have cO := fun W (hB : Below w.heap.size w W) v st (hv : AtIs l v st) => one_any W A n c l hln hnc hn (hb.below hB) v st hv
  replace hln := Lib.hid hln
  replace cR := Lib.hid cR
  replace cT := Lib.hid cT
  replace cO := Lib.hid cO
  replace e1 := Lib.hid e1
  replace e2 := Lib.hid e2
  replace e3 := Lib.hid e3
  replace e4 := Lib.hid e4
  replace e5 := Lib.hid e5
  replace e6 := Lib.hid e6
  clear hbB
  replace hW0 := Lib.hid hW0
  replace hP := Lib.hid hP
  go_enter Tryd.func50, Tryd.ntmps50
  go_wp2_with fail
  rw [hW0.out, hP.out]
  refine (cR.out W0 q0.bw _ _ (AtIs.start l)).mono ?_
  rintro _ _ ⟨v1, rfl, a1, rfl⟩
  rw [e1.out]
  go_wp2_with fail
  refine (cO.out W0 q0.bw _ _ a1).mono ?_
  clear a1
  rintro _ _ ⟨v2, rfl, a2, rfl⟩
  rw [e2.out]
  obtain ⟨W1, hW1⟩ : ∃ W1, W0.setCell ⟨P + 1, 0, none⟩ (.int .u8 (gk : Int)) = W1 := ⟨_, rfl⟩
  have q1 : G2 w W1 P (.int .u8 (gk : Int)) (.string ⟨#[]⟩) (.string ⟨#[]⟩) (.int .u64 0) (.slice none 0 0) := by rw [← hW1]; exact q0.set1 rfl
  have d1 := q0.b1.cell
  have z1 := q0.b1.frozen
  go_wp2_with fail
  clear d1 z1 q0
  replace hW1 := Lib.hid hW1
  refine (cT.out W1 q1.bw _ _ a2).mono ?_
  clear a2
  rintro _ _ ⟨v3, rfl, a3, rfl⟩
  rw [e3.out]
  obtain ⟨W2, hW2⟩ : ∃ W2, W1.setCell ⟨P + 1, 1, none⟩ (.string gb) = W2 := ⟨_, rfl⟩
  have q2 : G2 w W2 P (.int .u8 (gk : Int)) (.string gb) (.string ⟨#[]⟩) (.int .u64 0) (.slice none 0 0) := by rw [← hW2]; exact q1.set1 rfl
  have d1 := q1.b1.cell
  have z1 := q1.b1.frozen
  have d2 := q2.b1.cell
  clear q1
  obtain ⟨S3, hS3⟩ : ∃ S, (gText (gOne (gRead (some l)).2).2).2 = S := ⟨_, rfl⟩
  rw [hS3] at a3
  have e4 := e4.out
  have e5 := e5.out
  have e6 := e6.out
  rw [e2.out, hS3] at e4 e5 e6
  have hk5 : gk = 0 ∨ gk = 1 ∨ gk = 3 ∨ gk = 4 ∨ (gk ≠ 0 ∧ gk ≠ 1 ∧ gk ≠ 3 ∧ gk ≠ 4) := by omega
  clear hS3 e1 e2 e3
  rcases hk5 with rfl | rfl | rfl | rfl | ⟨n0, n1, n3, n4⟩
  · simp only [two, trim, many] at e4 e5 e6
    obtain rfl : go = ByteArray.empty := by rw [← e4]; rfl
    obtain rfl : gp = 0 := by rw [← e5]; rfl
    have hcs : guessCs (gRead S3).1 (gRead S3).2 = gc := by rw [← e6]; rfl
    have hmn := gRead_lt S3
    obtain ⟨mn, hm⟩ : ∃ m, (gRead S3).1 = m := ⟨_, rfl⟩
    rw [hm] at hcs hmn
    replace hcs := Lib.hid hcs
    clear e4 e5 e6
    go_wp2_with fail
    clear d1 z1 d2
    replace hW2 := Lib.hid hW2
    refine (cR.out W2 q2.bw _ _ a3).mono ?_
    clear a3
    rintro _ _ ⟨v4, rfl, a4, rfl⟩
    rw [hm]
    replace hm := Lib.hid hm
    have q9 : G2 w W2 P (.int .u8 ((0 : Nat) : Int)) (.string gb) (.string ByteArray.empty) (.int .u64 ((0 : Nat) : Int)) (.slice none ([] : List Ch).length 0) := q2
    have hgl := hcs.out
    go_wp2
    go_loopw [6, 9] (fun v6 v9 wr => ∃ (i : Nat) (v : Int) (cs : List Ch) (st : Herb.Cm.St) (A' : Option Addr) (cap : Nat), i ≤ mn ∧ v9 = .int .u64 (i : Int) ∧ v6 = .int .i64 v ∧ AtIs l v st ∧ gc = cs ++ guessCs (mn - i) st ∧ G2 w wr P (.int .u8 ((0 : Nat) : Int)) (.string gb) (.string ByteArray.empty) (.int .u64 ((0 : Nat) : Int)) (.slice A' cs.length cap) ∧ wr.ownsRow (P + 2) 51 4 (.slice A' cs.length cap) cs.length (chC cs)) (fun _ v9 _ => mn - (intOf v9).toNat)
    case atStart => exact ⟨0, _, [], _, none, 0, by omega, rfl, rfl, a4, by simp [hcs.out], q9, World.ownsRow_nil _ _ _ _⟩
    case round =>
      clear q9 a4
      obtain ⟨i, v, cs, st, A', cap, hi, rfl, rfl, hat, hgc, q, own⟩ := hrel
      have hcl : cs.length ≤ n + 1 := by have h := hcsl; rw [hgc, List.length_append] at h; omega
      have hP2 := q.lt
      obtain ⟨k, hk⟩ : ∃ k, cs.length = k := ⟨_, rfl⟩
      rw [hk] at q own hcl
      replace hgc := Lib.hid hgc
      replace hk := Lib.hid hk
      by_cases hgo : i < mn ∧ ∃ r, st = some r
      · obtain ⟨hlt, r, rfl⟩ := hgo
        obtain ⟨p, hpl, hst, rfl⟩ : ∃ p : Nat, p ≤ l.length ∧ some r = some (l.drop p) ∧ v = (p : Int) := by
          rcases hat with ⟨h, _⟩ | h
          · cases h
          · exact h
        have hstep : guessCs (mn - i) (some r) = (guessC (some r)).1 :: guessCs (mn - (i + 1)) (guessC (some r)).2 := by
          rw [show mn - i = (mn - (i + 1)) + 1 by omega]; rfl
        have hwi : ((i : Int) + 1) % 18446744073709551616 = (i : Int) + 1 := by omega
        have hltn : decide (i < mn) = true := decide_eq_true hlt
        have hp0 : decide ((0 : Int) ≤ (p : Int)) = true := decide_eq_true (by omega)
        obtain ⟨C, hC⟩ : ∃ C, guessC (some r) = C := ⟨_, rfl⟩
        obtain ⟨⟨ck, cva, cki, cv⟩, stc⟩ := C
        rw [hC] at hstep
        unfold guessC at hC
        simp only [Prod.mk.injEq, Ch.mk.injEq] at hC
        obtain ⟨⟨x1, x2, x3, x4⟩, x5⟩ := hC
        have hn64 := gRead_lt (gText (some r)).2
        replace hstep := Lib.hid hstep
        replace hst := Lib.hid hst
        -- the change's block
        obtain ⟨Wa, hWa⟩ : ∃ Wa, wr.alloc (.cells #[.string ⟨#[]⟩, .int .u32 0, .int .u8 0, .string ⟨#[]⟩] 51) = Wa := ⟨_, rfl⟩
        obtain ⟨Q, hQ⟩ : ∃ Q, wr.heap.size = Q := ⟨_, rfl⟩
        have kc : Blk Wa Q 51 #[.string ⟨#[]⟩, .int .u32 0, .int .u8 0, .string ⟨#[]⟩] := by rw [← hWa, ← hQ]; exact Blk.new wr _ _
        have ba : Below wr.heap.size wr Wa := by rw [← hWa]; exact (Below.refl _ _).alloc (Nat.le_refl _) _
        have qa := q.below ba
        have owa := own_below own ba
        have hQP : P + 1 < Q := by omega
        have hnb : ∀ j, (Value.slice A' k cap).ownBlock = some j → j ≠ Q := fun j hj => by have := (own.lt j hj).2; omega
        clear own
        replace hnb := Lib.hid hnb
        replace hWa := Lib.hid hWa
        replace hQ := Lib.hid hQ
        obtain ⟨m, hm'⟩ : ∃ m, (gRead (gText (some r)).2).1 = m := ⟨_, rfl⟩
        rw [hm'] at x2 hn64
        have hva : (m : Int) % 4294967296 = (cva : Int) := by omega
        go_wp2_with fail
        rw [hWa.out, hQ.out]
        refine (cT.out Wa qa.bw _ _ hat).mono ?_
        clear hat q
        rintro _ _ ⟨v6, rfl, a6, rfl⟩
        rw [x1]
        obtain ⟨Wb, hWb⟩ : ∃ Wb, Wa.setCell ⟨Q, 0, none⟩ (.string ck) = Wb := ⟨_, rfl⟩
        have kb : Blk Wb Q 51 #[.string ck, .int .u32 0, .int .u8 0, .string ⟨#[]⟩] := by rw [← hWb]; exact kc.store 0 _
        have qb := qa.far (q := ⟨Q, 0, none⟩) hQP (.string ck)
        rw [hWb] at qb
        have ob : Wb.ownsRow (P + 2) 51 4 (.slice A' k cap) k (chC cs) := by rw [← hWb]; exact own_off owa _ hnb.out
        have d1 := kc.cell
        have z1 := kc.frozen
        go_wp2_with fail
        clear d1 z1 kc qa owa
        replace hWb := Lib.hid hWb
        refine (cR.out Wb qb.bw _ _ a6).mono ?_
        clear a6
        rintro _ _ ⟨v7, rfl, a7, rfl⟩
        rw [hm']
        obtain ⟨Wc, hWc⟩ : ∃ W, Wb.setCell ⟨Q, 1, none⟩ (.int .u32 (cva : Int)) = W := ⟨_, rfl⟩
        have kWc : Blk Wc Q 51 #[.string ck, .int .u32 (cva : Int), .int .u8 0, .string ⟨#[]⟩] := by rw [← hWc]; exact kb.store 1 _
        have qWc := qb.far (q := ⟨Q, 1, none⟩) hQP (.int .u32 (cva : Int))
        rw [hWc] at qWc
        have oWc : Wc.ownsRow (P + 2) 51 4 (.slice A' k cap) k (chC cs) := by rw [← hWc]; exact own_off ob _ hnb.out
        have d1 := kb.cell
        have z1 := kb.frozen
        go_wp2_with fail
        clear d1 z1 kb qb ob hva
        replace hWc := Lib.hid hWc
        refine (cO.out Wc qWc.bw _ _ a7).mono ?_
        clear a7
        rintro _ _ ⟨v8, rfl, a8, rfl⟩
        rw [x3]
        obtain ⟨Wd, hWd⟩ : ∃ W, Wc.setCell ⟨Q, 2, none⟩ (.int .u8 (cki : Int)) = W := ⟨_, rfl⟩
        have kWd : Blk Wd Q 51 #[.string ck, .int .u32 (cva : Int), .int .u8 (cki : Int), .string ⟨#[]⟩] := by rw [← hWd]; exact kWc.store 2 _
        have qWd := qWc.far (q := ⟨Q, 2, none⟩) hQP (.int .u8 (cki : Int))
        rw [hWd] at qWd
        have oWd : Wd.ownsRow (P + 2) 51 4 (.slice A' k cap) k (chC cs) := by rw [← hWd]; exact own_off oWc _ hnb.out
        have d1 := kWc.cell
        have z1 := kWc.frozen
        have d2 := kWd.cell
        rw [x3] at x4 x5
        by_cases hk0 : cki = 0
        · rw [if_pos hk0] at x4 x5
          have f0 : ((cki : Int) == 0) = true := by simp; omega
          replace hk0 := Lib.hid hk0
          go_wp2_with fail
          clear d1 z1 d2 kWc qWc oWc
          replace hWd := Lib.hid hWd
          refine (cT.out Wd qWd.bw _ _ a8).mono ?_
          clear a8
          rintro _ _ ⟨v10, rfl, a10, rfl⟩
          rw [x4]
          rw [x5] at a10
          obtain ⟨We, hWe⟩ : ∃ W, Wd.setCell ⟨Q, 3, none⟩ (.string cv) = W := ⟨_, rfl⟩
          have kWe : Blk We Q 51 #[.string ck, .int .u32 (cva : Int), .int .u8 (cki : Int), .string cv] := by rw [← hWe]; exact kWd.store 3 _
          have qWe := qWd.far (q := ⟨Q, 3, none⟩) hQP (.string cv)
          rw [hWe] at qWe
          have oWe : We.ownsRow (P + 2) 51 4 (.slice A' k cap) k (chC cs) := by rw [← hWe]; exact own_off oWd _ hnb.out
          have d1 := kWd.cell
          have z1 := kWd.frozen
          have hnewB := (Below.refl We.heap.size We).alloc (Nat.le_refl _) (.cells #[.string ck, .int .u32 (cva : Int), .int .u8 (cki : Int), .string cv] 51)
          have rd1 := Rd.ch We ⟨ck, cva, cki, cv⟩
          have oe := own_below oWe hnewB
          have qe := qWe.below hnewB
          have hbase : P + 2 ≤ (We.alloc (.cells #[.string ck, .int .u32 (cva : Int), .int .u8 (cki : Int), .string cv] 51)).heap.size := qe.lt
          have de := qe.b1.cell
          have d8 := kWe.cell
          have d7 := qWe.b1.cell
          have hgrow : ∀ w9, (We.alloc (.cells #[.string ck, .int .u32 (cva : Int), .int .u8 (cki : Int), .string cv] 51)).grownBy w9 (Value.slice A' k cap).ownBlock → G2 w w9 P _ _ _ _ _ := fun w9 hg => qe.grownR hg (fun j hj => (oe.lt j hj).1)
          replace hgrow := Lib.hid hgrow
          replace qe := Lib.hid qe
          go_wp2_with (at_builtin; refine wpList_app _ rfl (.tmp 117) (.tmp 119) rfl Tryd.underlying24 chInfo rfl (by omega) oe rfl _ 1 1 rd1 rfl (chC_one _) (by unfold maxLen; omega) (by omega) hbase ?_; intro v9 w9 hown9 hgrow9 hlie9; obtain ⟨A9, cap9, rfl⟩ := own_slice hown9; have q9 := hgrow.out w9 hgrow9; clear de d8 d7 hgrow9 hlie9; have d9 := q9.b1.cell; have z9 := q9.b1.frozen)
          have hlen : (cs ++ [(⟨ck, cva, cki, cv⟩ : Ch)]).length = k + 1 := by rw [List.length_append, hk.out]; rfl
          have own10 : (w9.setCell ⟨P + 1, 4, none⟩ (.slice A9 (k + 1) cap9)).ownsRow (P + 2) 51 4 (.slice A9 (k + 1) cap9) (k + 1) (chC (cs ++ [(⟨ck, cva, cki, cv⟩ : Ch)])) := by
            rw [chC_append]
            exact own_set hown9 _ (by omega)
          have q10 := q9.set1 (i := 4) (v := .slice A9 (k + 1) cap9) rfl
          have hgc' : gc = (cs ++ [(⟨ck, cva, cki, cv⟩ : Ch)]) ++ guessCs (mn - (i + 1)) stc := by rw [hgc.out, hstep.out, List.append_assoc]; rfl
          clear d9 z9 q9 hown9
          go_roundw
          case rel => exact ⟨i + 1, _, cs ++ [(⟨ck, cva, cki, cv⟩ : Ch)], stc, A9, cap9, by omega, by go_num, rfl, a10, hgc', by rw [hlen]; exact q10, by rw [hlen]; exact own10⟩
          case measure => simp [intOf]; omega
        · rw [if_neg hk0] at x4 x5
          have f0 : ((cki : Int) == 0) = false := by simp; omega
          simp only at x4 x5
          subst x4
          rw [x5] at a8
          replace hk0 := Lib.hid hk0
          have kWd : Blk Wd Q 51 #[.string ck, .int .u32 (cva : Int), .int .u8 (cki : Int), .string ByteArray.empty] := kWd
          have hnewB := (Below.refl Wd.heap.size Wd).alloc (Nat.le_refl _) (.cells #[.string ck, .int .u32 (cva : Int), .int .u8 (cki : Int), .string ByteArray.empty] 51)
          have rd1 := Rd.ch Wd ⟨ck, cva, cki, ByteArray.empty⟩
          have oe := own_below oWd hnewB
          have qe := qWd.below hnewB
          have hbase : P + 2 ≤ (Wd.alloc (.cells #[.string ck, .int .u32 (cva : Int), .int .u8 (cki : Int), .string ByteArray.empty] 51)).heap.size := qe.lt
          have de := qe.b1.cell
          have d8 := kWd.cell
          have d7 := qWd.b1.cell
          have hgrow : ∀ w9, (Wd.alloc (.cells #[.string ck, .int .u32 (cva : Int), .int .u8 (cki : Int), .string ByteArray.empty] 51)).grownBy w9 (Value.slice A' k cap).ownBlock → G2 w w9 P _ _ _ _ _ := fun w9 hg => qe.grownR hg (fun j hj => (oe.lt j hj).1)
          replace hgrow := Lib.hid hgrow
          replace qe := Lib.hid qe
          go_wp2_with (at_builtin; refine wpList_app _ rfl (.tmp 117) (.tmp 119) rfl Tryd.underlying24 chInfo rfl (by omega) oe rfl _ 1 1 rd1 rfl (chC_one _) (by unfold maxLen; omega) (by omega) hbase ?_; intro v9 w9 hown9 hgrow9 hlie9; obtain ⟨A9, cap9, rfl⟩ := own_slice hown9; have q9 := hgrow.out w9 hgrow9; clear de d8 d7 hgrow9 hlie9; have d9 := q9.b1.cell; have z9 := q9.b1.frozen)
          have hlen : (cs ++ [(⟨ck, cva, cki, ByteArray.empty⟩ : Ch)]).length = k + 1 := by rw [List.length_append, hk.out]; rfl
          have own10 : (w9.setCell ⟨P + 1, 4, none⟩ (.slice A9 (k + 1) cap9)).ownsRow (P + 2) 51 4 (.slice A9 (k + 1) cap9) (k + 1) (chC (cs ++ [(⟨ck, cva, cki, ByteArray.empty⟩ : Ch)])) := by
            rw [chC_append]
            exact own_set hown9 _ (by omega)
          have q10 := q9.set1 (i := 4) (v := .slice A9 (k + 1) cap9) rfl
          have hgc' : gc = (cs ++ [(⟨ck, cva, cki, ByteArray.empty⟩ : Ch)]) ++ guessCs (mn - (i + 1)) stc := by rw [hgc.out, hstep.out, List.append_assoc]; rfl
          clear d9 z9 q9 hown9
          go_roundw
          case rel => exact ⟨i + 1, _, cs ++ [(⟨ck, cva, cki, ByteArray.empty⟩ : Ch)], stc, A9, cap9, by omega, by go_num, rfl, a8, hgc', by rw [hlen]; exact q10, by rw [hlen]; exact own10⟩
          case measure => simp [intOf]; omega
      · have hgc2 : gc = cs := by
          rw [hgc.out]
          rcases Nat.lt_or_ge i mn with h | h
          · rcases hat with ⟨rfl, _⟩ | ⟨p, _, h2, _⟩
            · obtain ⟨j, hj⟩ : ∃ j, mn - i = j + 1 := ⟨mn - i - 1, by omega⟩
              rw [hj]
              simp [guessCs]
            · exact absurd ⟨h, _, h2⟩ hgo
          · rw [show mn - i = 0 by omega]
            simp [guessCs]
        subst hgc2
        have hcase : decide (i < mn) = false ∨ (decide (i < mn) = true ∧ v = -1) := by
          rcases Nat.lt_or_ge i mn with h | h
          · rcases hat with ⟨_, h2⟩ | ⟨p, _, h2, _⟩
            · exact .inr ⟨decide_eq_true h, h2⟩
            · exact absurd ⟨h, _, h2⟩ hgo
          · exact .inl (decide_eq_false (by omega))
        clear hgo hat
        have d0 := q.b0.cell
        have d1 := q.b1.cell
        have z0 := q.b0.frozen
        rcases hcase with f1 | ⟨f1, rfl⟩
        all_goals
          go_wp2_with fail
          go_region
          go_wp2
          exact bodyPost_ret (results_tc rfl _ P rfl q.fin.1 Tryd.underlying26 rfl opSz) rfl ⟨_, k, rfl, hk.out, own_fin _ _ _ _ _ own _ (by have := hP.out; omega), q.fin.2⟩
  · simp only [two, trim, many] at e4 e5 e6
    obtain rfl : gp = 0 := by rw [← e5]; rfl
    obtain rfl : gc = [] := by rw [← e6]; rfl
    have e4' : (gText S3).1 = go := by rw [← e4]; rfl
    replace e4' := Lib.hid e4'
    clear e4 e5 e6
    go_wp2_with fail
    clear d1 z1 d2
    replace hW2 := Lib.hid hW2
    refine (cT.out W2 q2.bw _ _ a3).mono ?_
    clear a3
    rintro _ _ ⟨v4, rfl, a4, rfl⟩
    rw [e4'.out]
    obtain ⟨W3, hW3⟩ : ∃ W3, W2.setCell ⟨P + 1, 2, none⟩ (.string go) = W3 := ⟨_, rfl⟩
    have q3 : G2 w W3 P (.int .u8 ((1 : Nat) : Int)) (.string gb) (.string go) (.int .u64 ((0 : Nat) : Int)) (.slice none 0 0) := by rw [← hW3]; exact q2.set1 rfl
    have d1 := q2.b1.cell
    have z1 := q2.b1.frozen
    have d2 := q3.b1.cell
    clear q2 a4
    go_wp2_with fail
    clear d1 z1 d2
    replace hW3 := Lib.hid hW3
    have d0 := q3.b0.cell
    have d1 := q3.b1.cell
    have z0 := q3.b0.frozen
    refine wp_loop_rounds 1 ?_
    rw [rounds_succ]
    go_wp2_with fail
    go_region
    go_wp2
    exact bodyPost_ret (results_tc rfl _ P rfl q3.fin.1 Tryd.underlying26 rfl opSz) rfl ⟨_, 0, rfl, rfl, World.ownsRow_nil _ _ _ _, q3.fin.2⟩
  · simp only [two, trim, many] at e4 e5 e6
    obtain rfl : gp = 0 := by rw [← e5]; rfl
    have e4' : (gText S3).1 = go := by rw [← e4]; rfl
    obtain ⟨S4, hS4⟩ : ∃ S, (gText S3).2 = S := ⟨_, rfl⟩
    have hcs : guessCs (gRead S4).1 (gRead S4).2 = gc := by rw [← e6, ← hS4]; rfl
    have hmn := gRead_lt S4
    obtain ⟨mn, hm⟩ : ∃ m, (gRead S4).1 = m := ⟨_, rfl⟩
    rw [hm] at hcs hmn
    replace hcs := Lib.hid hcs
    replace e4' := Lib.hid e4'
    clear e4 e5 e6
    go_wp2_with fail
    clear d1 z1 d2
    replace hW2 := Lib.hid hW2
    refine (cT.out W2 q2.bw _ _ a3).mono ?_
    clear a3
    rintro _ _ ⟨v4, rfl, a4, rfl⟩
    rw [e4'.out]
    rw [hS4] at a4
    replace hS4 := Lib.hid hS4
    obtain ⟨W3, hW3⟩ : ∃ W3, W2.setCell ⟨P + 1, 2, none⟩ (.string go) = W3 := ⟨_, rfl⟩
    have q3 : G2 w W3 P (.int .u8 ((3 : Nat) : Int)) (.string gb) (.string go) (.int .u64 ((0 : Nat) : Int)) (.slice none ([] : List Ch).length 0) := by rw [← hW3]; exact q2.set1 rfl
    have d1 := q2.b1.cell
    have z1 := q2.b1.frozen
    have d2 := q3.b1.cell
    clear q2
    go_wp2_with fail
    clear d1 z1 d2
    replace hW3 := Lib.hid hW3
    refine (cR.out W3 q3.bw _ _ a4).mono ?_
    clear a4
    rintro _ _ ⟨v5, rfl, a5, rfl⟩
    rw [hm]
    replace hm := Lib.hid hm
    have hgl := hcs.out
    go_wp2
    go_loopw [6, 9] (fun v6 v9 wr => ∃ (i : Nat) (v : Int) (cs : List Ch) (st : Herb.Cm.St) (A' : Option Addr) (cap : Nat), i ≤ mn ∧ v9 = .int .u64 (i : Int) ∧ v6 = .int .i64 v ∧ AtIs l v st ∧ gc = cs ++ guessCs (mn - i) st ∧ G2 w wr P (.int .u8 ((3 : Nat) : Int)) (.string gb) (.string go) (.int .u64 ((0 : Nat) : Int)) (.slice A' cs.length cap) ∧ wr.ownsRow (P + 2) 51 4 (.slice A' cs.length cap) cs.length (chC cs)) (fun _ v9 _ => mn - (intOf v9).toNat)
    case atStart => exact ⟨0, _, [], _, none, 0, by omega, rfl, rfl, a5, by simp [hcs.out], q3, World.ownsRow_nil _ _ _ _⟩
    case round =>
      clear q3 a5
      obtain ⟨i, v, cs, st, A', cap, hi, rfl, rfl, hat, hgc, q, own⟩ := hrel
      have hcl : cs.length ≤ n + 1 := by have h := hcsl; rw [hgc, List.length_append] at h; omega
      have hP2 := q.lt
      obtain ⟨k, hk⟩ : ∃ k, cs.length = k := ⟨_, rfl⟩
      rw [hk] at q own hcl
      replace hgc := Lib.hid hgc
      replace hk := Lib.hid hk
      by_cases hgo : i < mn ∧ ∃ r, st = some r
      · obtain ⟨hlt, r, rfl⟩ := hgo
        obtain ⟨p, hpl, hst, rfl⟩ : ∃ p : Nat, p ≤ l.length ∧ some r = some (l.drop p) ∧ v = (p : Int) := by
          rcases hat with ⟨h, _⟩ | h
          · cases h
          · exact h
        have hstep : guessCs (mn - i) (some r) = (guessC (some r)).1 :: guessCs (mn - (i + 1)) (guessC (some r)).2 := by
          rw [show mn - i = (mn - (i + 1)) + 1 by omega]; rfl
        have hwi : ((i : Int) + 1) % 18446744073709551616 = (i : Int) + 1 := by omega
        have hltn : decide (i < mn) = true := decide_eq_true hlt
        have hp0 : decide ((0 : Int) ≤ (p : Int)) = true := decide_eq_true (by omega)
        obtain ⟨C, hC⟩ : ∃ C, guessC (some r) = C := ⟨_, rfl⟩
        obtain ⟨⟨ck, cva, cki, cv⟩, stc⟩ := C
        rw [hC] at hstep
        unfold guessC at hC
        simp only [Prod.mk.injEq, Ch.mk.injEq] at hC
        obtain ⟨⟨x1, x2, x3, x4⟩, x5⟩ := hC
        have hn64 := gRead_lt (gText (some r)).2
        replace hstep := Lib.hid hstep
        replace hst := Lib.hid hst
        -- the change's block
        obtain ⟨Wa, hWa⟩ : ∃ Wa, wr.alloc (.cells #[.string ⟨#[]⟩, .int .u32 0, .int .u8 0, .string ⟨#[]⟩] 51) = Wa := ⟨_, rfl⟩
        obtain ⟨Q, hQ⟩ : ∃ Q, wr.heap.size = Q := ⟨_, rfl⟩
        have kc : Blk Wa Q 51 #[.string ⟨#[]⟩, .int .u32 0, .int .u8 0, .string ⟨#[]⟩] := by rw [← hWa, ← hQ]; exact Blk.new wr _ _
        have ba : Below wr.heap.size wr Wa := by rw [← hWa]; exact (Below.refl _ _).alloc (Nat.le_refl _) _
        have qa := q.below ba
        have owa := own_below own ba
        have hQP : P + 1 < Q := by omega
        have hnb : ∀ j, (Value.slice A' k cap).ownBlock = some j → j ≠ Q := fun j hj => by have := (own.lt j hj).2; omega
        clear own
        replace hnb := Lib.hid hnb
        replace hWa := Lib.hid hWa
        replace hQ := Lib.hid hQ
        obtain ⟨m, hm'⟩ : ∃ m, (gRead (gText (some r)).2).1 = m := ⟨_, rfl⟩
        rw [hm'] at x2 hn64
        have hva : (m : Int) % 4294967296 = (cva : Int) := by omega
        go_wp2_with fail
        rw [hWa.out, hQ.out]
        refine (cT.out Wa qa.bw _ _ hat).mono ?_
        clear hat q
        rintro _ _ ⟨v6, rfl, a6, rfl⟩
        rw [x1]
        obtain ⟨Wb, hWb⟩ : ∃ Wb, Wa.setCell ⟨Q, 0, none⟩ (.string ck) = Wb := ⟨_, rfl⟩
        have kb : Blk Wb Q 51 #[.string ck, .int .u32 0, .int .u8 0, .string ⟨#[]⟩] := by rw [← hWb]; exact kc.store 0 _
        have qb := qa.far (q := ⟨Q, 0, none⟩) hQP (.string ck)
        rw [hWb] at qb
        have ob : Wb.ownsRow (P + 2) 51 4 (.slice A' k cap) k (chC cs) := by rw [← hWb]; exact own_off owa _ hnb.out
        have d1 := kc.cell
        have z1 := kc.frozen
        go_wp2_with fail
        clear d1 z1 kc qa owa
        replace hWb := Lib.hid hWb
        refine (cR.out Wb qb.bw _ _ a6).mono ?_
        clear a6
        rintro _ _ ⟨v7, rfl, a7, rfl⟩
        rw [hm']
        obtain ⟨Wc, hWc⟩ : ∃ W, Wb.setCell ⟨Q, 1, none⟩ (.int .u32 (cva : Int)) = W := ⟨_, rfl⟩
        have kWc : Blk Wc Q 51 #[.string ck, .int .u32 (cva : Int), .int .u8 0, .string ⟨#[]⟩] := by rw [← hWc]; exact kb.store 1 _
        have qWc := qb.far (q := ⟨Q, 1, none⟩) hQP (.int .u32 (cva : Int))
        rw [hWc] at qWc
        have oWc : Wc.ownsRow (P + 2) 51 4 (.slice A' k cap) k (chC cs) := by rw [← hWc]; exact own_off ob _ hnb.out
        have d1 := kb.cell
        have z1 := kb.frozen
        go_wp2_with fail
        clear d1 z1 kb qb ob hva
        replace hWc := Lib.hid hWc
        refine (cO.out Wc qWc.bw _ _ a7).mono ?_
        clear a7
        rintro _ _ ⟨v8, rfl, a8, rfl⟩
        rw [x3]
        obtain ⟨Wd, hWd⟩ : ∃ W, Wc.setCell ⟨Q, 2, none⟩ (.int .u8 (cki : Int)) = W := ⟨_, rfl⟩
        have kWd : Blk Wd Q 51 #[.string ck, .int .u32 (cva : Int), .int .u8 (cki : Int), .string ⟨#[]⟩] := by rw [← hWd]; exact kWc.store 2 _
        have qWd := qWc.far (q := ⟨Q, 2, none⟩) hQP (.int .u8 (cki : Int))
        rw [hWd] at qWd
        have oWd : Wd.ownsRow (P + 2) 51 4 (.slice A' k cap) k (chC cs) := by rw [← hWd]; exact own_off oWc _ hnb.out
        have d1 := kWc.cell
        have z1 := kWc.frozen
        have d2 := kWd.cell
        rw [x3] at x4 x5
        by_cases hk0 : cki = 0
        · rw [if_pos hk0] at x4 x5
          have f0 : ((cki : Int) == 0) = true := by simp; omega
          replace hk0 := Lib.hid hk0
          go_wp2_with fail
          clear d1 z1 d2 kWc qWc oWc
          replace hWd := Lib.hid hWd
          refine (cT.out Wd qWd.bw _ _ a8).mono ?_
          clear a8
          rintro _ _ ⟨v10, rfl, a10, rfl⟩
          rw [x4]
          rw [x5] at a10
          obtain ⟨We, hWe⟩ : ∃ W, Wd.setCell ⟨Q, 3, none⟩ (.string cv) = W := ⟨_, rfl⟩
          have kWe : Blk We Q 51 #[.string ck, .int .u32 (cva : Int), .int .u8 (cki : Int), .string cv] := by rw [← hWe]; exact kWd.store 3 _
          have qWe := qWd.far (q := ⟨Q, 3, none⟩) hQP (.string cv)
          rw [hWe] at qWe
          have oWe : We.ownsRow (P + 2) 51 4 (.slice A' k cap) k (chC cs) := by rw [← hWe]; exact own_off oWd _ hnb.out
          have d1 := kWd.cell
          have z1 := kWd.frozen
          have hnewB := (Below.refl We.heap.size We).alloc (Nat.le_refl _) (.cells #[.string ck, .int .u32 (cva : Int), .int .u8 (cki : Int), .string cv] 51)
          have rd1 := Rd.ch We ⟨ck, cva, cki, cv⟩
          have oe := own_below oWe hnewB
          have qe := qWe.below hnewB
          have hbase : P + 2 ≤ (We.alloc (.cells #[.string ck, .int .u32 (cva : Int), .int .u8 (cki : Int), .string cv] 51)).heap.size := qe.lt
          have de := qe.b1.cell
          have d8 := kWe.cell
          have d7 := qWe.b1.cell
          have hgrow : ∀ w9, (We.alloc (.cells #[.string ck, .int .u32 (cva : Int), .int .u8 (cki : Int), .string cv] 51)).grownBy w9 (Value.slice A' k cap).ownBlock → G2 w w9 P _ _ _ _ _ := fun w9 hg => qe.grownR hg (fun j hj => (oe.lt j hj).1)
          replace hgrow := Lib.hid hgrow
          replace qe := Lib.hid qe
          go_wp2_with (at_builtin; refine wpList_app _ rfl (.tmp 117) (.tmp 119) rfl Tryd.underlying24 chInfo rfl (by omega) oe rfl _ 1 1 rd1 rfl (chC_one _) (by unfold maxLen; omega) (by omega) hbase ?_; intro v9 w9 hown9 hgrow9 hlie9; obtain ⟨A9, cap9, rfl⟩ := own_slice hown9; have q9 := hgrow.out w9 hgrow9; clear de d8 d7 hgrow9 hlie9; have d9 := q9.b1.cell; have z9 := q9.b1.frozen)
          have hlen : (cs ++ [(⟨ck, cva, cki, cv⟩ : Ch)]).length = k + 1 := by rw [List.length_append, hk.out]; rfl
          have own10 : (w9.setCell ⟨P + 1, 4, none⟩ (.slice A9 (k + 1) cap9)).ownsRow (P + 2) 51 4 (.slice A9 (k + 1) cap9) (k + 1) (chC (cs ++ [(⟨ck, cva, cki, cv⟩ : Ch)])) := by
            rw [chC_append]
            exact own_set hown9 _ (by omega)
          have q10 := q9.set1 (i := 4) (v := .slice A9 (k + 1) cap9) rfl
          have hgc' : gc = (cs ++ [(⟨ck, cva, cki, cv⟩ : Ch)]) ++ guessCs (mn - (i + 1)) stc := by rw [hgc.out, hstep.out, List.append_assoc]; rfl
          clear d9 z9 q9 hown9
          go_roundw
          case rel => exact ⟨i + 1, _, cs ++ [(⟨ck, cva, cki, cv⟩ : Ch)], stc, A9, cap9, by omega, by go_num, rfl, a10, hgc', by rw [hlen]; exact q10, by rw [hlen]; exact own10⟩
          case measure => simp [intOf]; omega
        · rw [if_neg hk0] at x4 x5
          have f0 : ((cki : Int) == 0) = false := by simp; omega
          simp only at x4 x5
          subst x4
          rw [x5] at a8
          replace hk0 := Lib.hid hk0
          have kWd : Blk Wd Q 51 #[.string ck, .int .u32 (cva : Int), .int .u8 (cki : Int), .string ByteArray.empty] := kWd
          have hnewB := (Below.refl Wd.heap.size Wd).alloc (Nat.le_refl _) (.cells #[.string ck, .int .u32 (cva : Int), .int .u8 (cki : Int), .string ByteArray.empty] 51)
          have rd1 := Rd.ch Wd ⟨ck, cva, cki, ByteArray.empty⟩
          have oe := own_below oWd hnewB
          have qe := qWd.below hnewB
          have hbase : P + 2 ≤ (Wd.alloc (.cells #[.string ck, .int .u32 (cva : Int), .int .u8 (cki : Int), .string ByteArray.empty] 51)).heap.size := qe.lt
          have de := qe.b1.cell
          have d8 := kWd.cell
          have d7 := qWd.b1.cell
          have hgrow : ∀ w9, (Wd.alloc (.cells #[.string ck, .int .u32 (cva : Int), .int .u8 (cki : Int), .string ByteArray.empty] 51)).grownBy w9 (Value.slice A' k cap).ownBlock → G2 w w9 P _ _ _ _ _ := fun w9 hg => qe.grownR hg (fun j hj => (oe.lt j hj).1)
          replace hgrow := Lib.hid hgrow
          replace qe := Lib.hid qe
          go_wp2_with (at_builtin; refine wpList_app _ rfl (.tmp 117) (.tmp 119) rfl Tryd.underlying24 chInfo rfl (by omega) oe rfl _ 1 1 rd1 rfl (chC_one _) (by unfold maxLen; omega) (by omega) hbase ?_; intro v9 w9 hown9 hgrow9 hlie9; obtain ⟨A9, cap9, rfl⟩ := own_slice hown9; have q9 := hgrow.out w9 hgrow9; clear de d8 d7 hgrow9 hlie9; have d9 := q9.b1.cell; have z9 := q9.b1.frozen)
          have hlen : (cs ++ [(⟨ck, cva, cki, ByteArray.empty⟩ : Ch)]).length = k + 1 := by rw [List.length_append, hk.out]; rfl
          have own10 : (w9.setCell ⟨P + 1, 4, none⟩ (.slice A9 (k + 1) cap9)).ownsRow (P + 2) 51 4 (.slice A9 (k + 1) cap9) (k + 1) (chC (cs ++ [(⟨ck, cva, cki, ByteArray.empty⟩ : Ch)])) := by
            rw [chC_append]
            exact own_set hown9 _ (by omega)
          have q10 := q9.set1 (i := 4) (v := .slice A9 (k + 1) cap9) rfl
          have hgc' : gc = (cs ++ [(⟨ck, cva, cki, ByteArray.empty⟩ : Ch)]) ++ guessCs (mn - (i + 1)) stc := by rw [hgc.out, hstep.out, List.append_assoc]; rfl
          clear d9 z9 q9 hown9
          go_roundw
          case rel => exact ⟨i + 1, _, cs ++ [(⟨ck, cva, cki, ByteArray.empty⟩ : Ch)], stc, A9, cap9, by omega, by go_num, rfl, a8, hgc', by rw [hlen]; exact q10, by rw [hlen]; exact own10⟩
          case measure => simp [intOf]; omega
      · have hgc2 : gc = cs := by
          rw [hgc.out]
          rcases Nat.lt_or_ge i mn with h | h
          · rcases hat with ⟨rfl, _⟩ | ⟨p, _, h2, _⟩
            · obtain ⟨j, hj⟩ : ∃ j, mn - i = j + 1 := ⟨mn - i - 1, by omega⟩
              rw [hj]
              simp [guessCs]
            · exact absurd ⟨h, _, h2⟩ hgo
          · rw [show mn - i = 0 by omega]
            simp [guessCs]
        subst hgc2
        have hcase : decide (i < mn) = false ∨ (decide (i < mn) = true ∧ v = -1) := by
          rcases Nat.lt_or_ge i mn with h | h
          · rcases hat with ⟨_, h2⟩ | ⟨p, _, h2, _⟩
            · exact .inr ⟨decide_eq_true h, h2⟩
            · exact absurd ⟨h, _, h2⟩ hgo
          · exact .inl (decide_eq_false (by omega))
        clear hgo hat
        have d0 := q.b0.cell
        have d1 := q.b1.cell
        have z0 := q.b0.frozen
        rcases hcase with f1 | ⟨f1, rfl⟩
        all_goals
          go_wp2_with fail
          go_region
          go_wp2
          exact bodyPost_ret (results_tc rfl _ P rfl q.fin.1 Tryd.underlying26 rfl opSz) rfl ⟨_, k, rfl, hk.out, own_fin _ _ _ _ _ own _ (by have := hP.out; omega), q.fin.2⟩
  · simp only [two, trim, many] at e4 e5 e6
    obtain rfl : go = ByteArray.empty := by rw [← e4]; rfl
    obtain rfl : gc = [] := by rw [← e6]; rfl
    have e5' : (gRead S3).1 = gp := by rw [← e5]; rfl
    replace e5' := Lib.hid e5'
    clear e4 e5 e6
    go_wp2_with fail
    clear d1 z1 d2
    replace hW2 := Lib.hid hW2
    refine (cR.out W2 q2.bw _ _ a3).mono ?_
    clear a3
    rintro _ _ ⟨v4, rfl, a4, rfl⟩
    rw [e5'.out]
    obtain ⟨W3, hW3⟩ : ∃ W3, W2.setCell ⟨P + 1, 3, none⟩ (.int .u64 (gp : Int)) = W3 := ⟨_, rfl⟩
    have q3 : G2 w W3 P (.int .u8 ((4 : Nat) : Int)) (.string gb) (.string ByteArray.empty) (.int .u64 (gp : Int)) (.slice none 0 0) := by rw [← hW3]; exact q2.set1 rfl
    have d1 := q2.b1.cell
    have z1 := q2.b1.frozen
    have d2 := q3.b1.cell
    clear q2 a4
    go_wp2_with fail
    clear d1 z1 d2
    replace hW3 := Lib.hid hW3
    have d0 := q3.b0.cell
    have d1 := q3.b1.cell
    have z0 := q3.b0.frozen
    refine wp_loop_rounds 1 ?_
    rw [rounds_succ]
    go_wp2_with fail
    go_region
    go_wp2
    exact bodyPost_ret (results_tc rfl _ P rfl q3.fin.1 Tryd.underlying26 rfl opSz) rfl ⟨_, 0, rfl, rfl, World.ownsRow_nil _ _ _ _, q3.fin.2⟩
  · have t1 : two gk = false := by simp [two, n1, n3]
    have t2 : trim gk = false := by simp [trim, n4]
    have t3 : many gk = false := by simp [many, n0, n3]
    rw [t1] at e4
    rw [t1, t2] at e5
    rw [t1, t2, t3] at e6
    obtain rfl : go = ByteArray.empty := by rw [← e4]; rfl
    obtain rfl : gp = 0 := by rw [← e5]; rfl
    obtain rfl : gc = [] := by rw [← e6]; rfl
    have f0 : ((gk : Int) == 0) = false := by simp; omega
    have f1 : ((gk : Int) == 1) = false := by simp; omega
    have f3 : ((gk : Int) == 3) = false := by simp; omega
    have f4 : ((gk : Int) == 4) = false := by simp; omega
    clear e4 e5 e6 t1 t2 t3 n0 n1 n3 n4
    go_wp2_with fail
    clear d1 z1 d2
    replace hW2 := Lib.hid hW2
    have q3 : G2 w W2 P (.int .u8 (gk : Int)) (.string gb) (.string ByteArray.empty) (.int .u64 ((0 : Nat) : Int)) (.slice none 0 0) := q2
    have d0 := q3.b0.cell
    have d1 := q3.b1.cell
    have z0 := q3.b0.frozen
    refine wp_loop_rounds 1 ?_
    rw [rounds_succ]
    go_wp2_with fail
    go_region
    go_wp2
    exact bodyPost_ret (results_tc rfl _ P rfl q3.fin.1 Tryd.underlying26 rfl opSz) rfl ⟨_, 0, rfl, rfl, World.ownsRow_nil _ _ _ _, q3.fin.2⟩
end Go.Proofs.YtccbldlnfaiphaaDoor
