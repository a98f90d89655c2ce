/- Walk of ops.Get. -/
import Derived.Test.YtccbldlnfaiphaaDoorOpE
import Derived.Test.YtccbldlnfaiphaaDoorOpC
import Derived.Test.YtccbldlnfaiphaaDoorOpGuess
import Derived.Deep.CutRange
import Derived.RegionDies
set_option linter.unusedSimpArgs false
set_option linter.unusedVariables false
namespace Herb
open Go Go.RowKit
/-- What a cell holds is stored once more: nothing turns. -/
theorem Blk.self {w : World} {g : Nat} {t : TypeId} {cs : Array Value} (h : Blk w g t cs) {i : Nat} {v : Value} (hv : cs[i]? = some v) : w.setCell ⟨g, i, none⟩ v = w := by
  have hlt := h.lt
  have he : w.heap[g] = .cells cs t (0, 0) := (Array.getElem?_eq_some_iff.1 h).2
  have hi := (Array.getElem?_eq_some_iff.1 hv)
  cases w with
  | mk heap tape drawn os output =>
    simp only [World.setCell]
    congr 1
    apply Array.ext
    · simp
    · intro k h1 h2
      rw [Array.getElem_modify]
      by_cases hk : g = k
      · subst hk
        simp only at he
        rw [if_pos rfl, he]
        simp only [Option.isSome_none, Bool.false_eq_true, if_false]
        congr 1
        apply Array.ext
        · simp
        · intro j j1 j2
          rw [Array.getElem_setIfInBounds]
          split
          · rename_i hij
            subst hij
            exact hi.2.symm
          · rfl
      · rw [if_neg hk]
end Herb
namespace Go.Proofs.YtccbldlnfaiphaaDoor
open Go Go.RowKit Herb Herb.Cm
/-- What Get answers. -/
def OG (w : World) (x : Option (Nat × Rec)) (e : Ending) (w' : World) : Prop := Below w.heap.size w w' ∧ (match x with
  | none => e = .returned (.tuple #[.int .u64 0, .agg #[.int .u8 0, .string ⟨#[]⟩, .string ⟨#[]⟩, .int .u64 0, .slice none 0 0], .int .i64 4])
  | some (s, o) => ∃ A' k cap, e = .returned (.tuple #[.int .u64 (s : Int), .agg #[.int .u8 (o.kind : Int), .string o.br, .string o.ot, .int .u64 (o.pl : Int), .slice A' k k], .int .i64 0]) ∧ o.cs.length = k ∧ w'.ownsRow w.heap.size 51 4 (.slice A' k cap) k (chC o.cs))
theorem OG.no {w w' : World} {x : Option (Nat × Rec)} (h : x = none) (hB : Below w.heap.size w w') : OG w x (.returned (.tuple #[.int .u64 0, .agg #[.int .u8 0, .string ⟨#[]⟩, .string ⟨#[]⟩, .int .u64 0, .slice none 0 0], .int .i64 4])) w' := by
  subst h; exact ⟨hB, rfl⟩
/-- The named results' variables. -/
structure G3 (w W : World) (P : Nat) (s k b o p ch : Value) : Prop where
  b0 : Blk W P 22 #[s]
  b1 : Blk W (P + 1) 26 #[k, b, o, p, ch]
  b2 : Blk W (P + 1 + 1) 31 #[.int .i64 0]
  bw : Below w.heap.size w W
  sz : w.heap.size = P
section
variable {w W W' : World} {P : Nat} {s k b o p ch : Value}
theorem G3.grown (h : G3 w W P s k b o p ch) (g : W.grownBy W' (some (P + 1 + 1 + 1))) : G3 w W' P s k b o p ch :=
  ⟨h.b0.grown g (by simp; omega), h.b1.grown g (by simp), h.b2.grown g (by simp), h.bw.grown g h.bw.size (fun j hj => by cases hj; have := h.sz; omega), h.sz⟩
theorem G3.grownR {row : Option Nat} (h : G3 w W P s k b o p ch) (g : W.grownBy W' row) (hr : ∀ j, row = some j → P + 1 + 1 + 1 ≤ j) : G3 w W' P s k b o p ch :=
  ⟨h.b0.grown g (fun e => by have := hr P e.symm; omega), h.b1.grown g (fun e => by have := hr (P + 1) e.symm; omega), h.b2.grown g (fun e => by have := hr (P + 1 + 1) e.symm; omega), h.bw.grown g h.bw.size (fun j hj => by have := hr j hj; have := h.sz; omega), h.sz⟩
theorem Tk.grownR {w W W' : World} {T : Nat} {l : List UInt8} {row : Option Nat} (h : Tk w W T l) (g : W.grownBy W' row) (hr : ∀ j, row = some j → T < j) : Tk w W' T l := by
  obtain ⟨A, n, c, hk, hb, hl, hnc, hT, hB⟩ := h
  exact ⟨A, n, c, hk.grown g (fun e => by have := hr T e.symm; omega), hb, hl, hnc, hT, hB.grown g hB.size (fun j hj => by have := hr j hj; omega)⟩
theorem G3.below (h : G3 w W P s k b o p ch) (g : Below W.heap.size W W') : G3 w W' P s k b o p ch := h.grown (grown_of_below g _)
theorem G3.set0 (h : G3 w W P s k b o p ch) (v : Value) : G3 w (W.setCell ⟨P, 0, none⟩ v) P v k b o p ch :=
  ⟨h.b0.store 0 v, h.b1.far (by show P + 1 ≠ P; omega) v, h.b2.far (by show P + 1 + 1 ≠ P; omega) v, below_store h.bw (p := ⟨P, 0, none⟩) (Nat.le_of_eq h.sz) v, h.sz⟩
theorem G3.set1 (h : G3 w W P s k b o p ch) {i : Nat} {v : Value} {k' b' o' p' ch' : Value} (e : (#[k, b, o, p, ch] : Array Value).setIfInBounds i v = #[k', b', o', p', ch']) : G3 w (W.setCell ⟨P + 1, i, none⟩ v) P s k' b' o' p' ch' :=
  ⟨h.b0.far (by show P ≠ P + 1; omega) v, e ▸ h.b1.store i v, h.b2.far (by show P + 1 + 1 ≠ P + 1; omega) v, below_store h.bw (p := ⟨P + 1, i, none⟩) (by have := h.sz; show w.heap.size ≤ P + 1; omega) v, h.sz⟩
end
theorem own_far {w w' : World} {base n size g : Nat} {e : TypeId} {v : Value} {xs : List Value} (h : w.ownsRow base e size v n xs) (hg : w.grownBy w' (some g)) (hlt : g < base) : w'.ownsRow base e size v n xs :=
  h.kept hg (by
    cases hv : v.ownBlock with
    | none => exact .inl rfl
    | some k => exact .inr (fun e => by injection e with e; have := (h.lt k hv).1; omega))
theorem chInfo : (Tryd.prog.info? 51).map (fun i => (i.zero, i.size, i.bytes)) = some (some (.agg #[.string ⟨#[]⟩, .int .u32 0, .int .u8 0, .string ⟨#[]⟩]), 4, 40) := by kernel_rfl
theorem clipCh_any (A : Option Addr) (n c : Nat) (hn : n ≤ c) (w : World) :
    Calls Tryd.prog 49 #[.slice A n c] w fun e w' => e = .returned (.slice A n n) ∧ w = w' := by
  go_enter Tryd.func49, Tryd.ntmps49
  go_wp2
  go_ret
  exact ⟨rfl, rfl⟩
theorem Tk.drew {w W : World} {T : Nat} {l : List UInt8} (h : Tk w W T l) : Tk w W.drew T l := by
  obtain ⟨A, n, c, hk, hb, hl, hnc, hT, hB⟩ := h
  exact ⟨A, n, c, hk.drew, hb, hl, hnc, hT, hB.drew⟩
/-- One change as a row. -/
theorem Rd.ch (w : World) (c : Ch) : Rd (w.alloc (.cells #[.string c.k, .int .u32 (c.va : Int), .int .u8 (c.ki : Int), .string c.v] 51)) 4 (some ⟨w.heap.size, 0, none⟩) 1 (chC [c]) :=
  (Blk.new w 51 _).rd rfl (fun j u hu => by simpa [chC, Ch.cells] using hu)
theorem opSz : (Tryd.prog.info? 26).map (·.size) = some 5 := by kernel_rfl
theorem read_get (tmps : Array Value) {w : World} {P0 P1 P2 : Nat} {s er : Int} {a b c d f : Value} (t2 : tmps.getD 2 undef = .pointer (some ⟨P0, 0, none⟩)) (t3 : tmps.getD 3 undef = .pointer (some ⟨P1, 0, none⟩)) (t4 : tmps.getD 4 undef = .pointer (some ⟨P2, 0, none⟩))
    (h0 : Blk w P0 22 #[.int .u64 s]) (h1 : Blk w P1 26 #[a, b, c, d, f]) (h2 : Blk w P2 31 #[.int .i64 er]) :
    (results Tryd.f21 tmps).run Tryd.prog w = .ok (.tuple #[.int .u64 s, .agg #[a, b, c, d, f], .int .i64 er]) w := by
  have t2' : tmps[2]?.getD undef = .pointer (some ⟨P0, 0, none⟩) := by simpa using t2
  have t3' : tmps[3]?.getD undef = .pointer (some ⟨P1, 0, none⟩) := by simpa using t3
  have t4' : tmps[4]?.getD undef = .pointer (some ⟨P2, 0, none⟩) := by simpa using t4
  have c0 : w.cell? ⟨P0, 0, none⟩ = some (.int .u64 s) := h0.cell 0
  have c2 : w.cell? ⟨P2, 0, none⟩ = some (.int .i64 er) := h2.cell 0
  have r1 := run_loadVar_row (P := Tryd.prog) w P1 26 26 #[a, b, c, d, f] (0, 0) _ h1 Tryd.underlying26 rfl opSz
  have hr : Tryd.f21.results = #[.cell 2 22, .cell 3 26, .cell 4 31] := rfl
  have r0 : (loadVar 22 ⟨P0, 0, none⟩).run Tryd.prog w = .ok (.int .u64 s) w := by simp [loadVar, isAgg, run_underlying Tryd.underlying22, c0, go_sem]
  have r2 : (loadVar 31 ⟨P2, 0, none⟩).run Tryd.prog w = .ok (.int .i64 er) w := by simp [loadVar, isAgg, run_underlying Tryd.underlying31, c2, go_sem]
  simp [results, hr, t2', t3', t4', asAddr, r0, r1, r2]
/-- It gives up: the deferred function makes the answer. -/
theorem give_up {w W : World} {P : Nat} {s k b o p ch : Value} (h : G3 w W P s k b o p ch) {x : Option (Nat × Rec)} (hx : x = none) (tmps : Array Value) (t2 : tmps.getD 2 undef = .pointer (some ⟨P, 0, none⟩)) (t3 : tmps.getD 3 undef = .pointer (some ⟨P + 1, 0, none⟩)) (t4 : tmps.getD 4 undef = .pointer (some ⟨P + 1 + 1, 0, none⟩)) :
    bodyPostD Tryd.prog Tryd.f21 (fun e w' => OG w x e w') (Exit.panic PF) { tmps := tmps, defers := [{ target := Target.fn (Fn.func 43) #[.pointer (some ⟨P, 0, none⟩), .pointer (some ⟨P + 1, 0, none⟩), .pointer (some ⟨P + 1 + 1, 0, none⟩)], args := #[] }] } W := by
  refine leaves_cons (f := 43) (args := #[.pointer (some ⟨P, 0, none⟩), .pointer (some ⟨P + 1, 0, none⟩), .pointer (some ⟨P + 1 + 1, 0, none⟩)]) (by simp) (by simp [go_sem]) ?_
  refine (catch_panic P (P + 1) (P + 1 + 1) W _ _ _ _ _ _ _ h.b0 h.b1 h.b2 (by omega) (by omega) (by omega)).mono ?_
  rintro e u' w'' ⟨rfl, rfl, q0, q1, q2, qB⟩
  have hB := qB w.heap.size w h.bw h.bw.size (Nat.le_of_eq h.sz) (by have := h.sz; omega) (by have := h.sz; omega)
  exact ⟨_, read_get tmps t2 t3 t4 q0 q1 q2, OG.no hx hB⟩
set_option maxRecDepth 100000 in
set_option maxHeartbeats 6400000 in
theorem opGet_any (w : World) (hS : Sets w) (A : Option Addr) (n c : Nat) (l : List UInt8) (hl : l.length = n) (hn : n ≤ 1000000) (hnc : n ≤ c) (hb : Bs w A l) :
    Calls Tryd.prog 21 #[.slice A n c] w fun e w' => OG w (parse l) e w' := by
  have hmf : ∀ (fn : Fn) (first cap : Array Value) (w : World), (Instr.makeFunc fn first cap).run Tryd.prog w = .ok (.func fn first cap) w := fun _ _ _ _ => rfl
  obtain ⟨x, hx⟩ : ∃ x, parse l = x := ⟨_, rfl⟩
  rw [hx]
  unfold parse at hx
  rw [hl] at hx
  have my := fun W => must_yes W
  have mn := fun W => must_no W
  obtain ⟨P, hP⟩ : ∃ P, w.heap.size = P := ⟨_, rfl⟩
  obtain ⟨W0, hW0⟩ : ∃ W0, ((w.alloc (.cells #[.int .u64 0] 22)).alloc (.cells #[.int .u8 0, .string ⟨#[]⟩, .string ⟨#[]⟩, .int .u64 0, .slice none 0 0] 26)).alloc (.cells #[.int .i64 0] 31) = W0 := ⟨_, rfl⟩
  have hs0 : W0.heap.size = P + 1 + 1 + 1 := by rw [← hW0, ← hP]; simp
  have q0 : G3 w W0 P (.int .u64 0) (.int .u8 0) (.string ⟨#[]⟩) (.string ⟨#[]⟩) (.int .u64 0) (.slice none 0 0) := by
    have e1 : (w.alloc (.cells #[.int .u64 0] 22)).heap.size = P + 1 := by rw [← hP]; simp
    have e2 : ((w.alloc (.cells #[.int .u64 0] 22)).alloc (.cells #[.int .u8 0, .string ⟨#[]⟩, .string ⟨#[]⟩, .int .u64 0, .slice none 0 0] 26)).heap.size = P + 1 + 1 := by rw [← hP]; simp
    rw [← hW0]
    refine ⟨?_, ?_, ?_, (((Below.refl w.heap.size w).alloc (Nat.le_refl _) _).alloc (by simp) _).alloc (by simp; omega) _, hP⟩
    · rw [← hP]; exact ((Blk.new w 22 _).alloc _).alloc _
    · rw [← e1]; exact (Blk.new _ 26 _).alloc _
    · rw [← e2]; exact Blk.new _ 31 _
  go_enter_defers Tryd.func21, Tryd.ntmps21
  by_cases hbig : 65536 < n
  · rw [if_pos hbig] at hx
    have hxx : x = none := hx.symm
    replace hxx := Lib.hid hxx
    clear hx
    have d : decide ((n : Int) ≤ 65536) = false := decide_eq_false (by omega)
    go_wp2_with fail
    refine (mn _).mono ?_
    rintro _ _ ⟨rfl, rfl⟩
    go_wp2
    exact give_up q0 hxx.out _ rfl rfl rfl
  rw [if_neg hbig] at hx
  have d : decide ((n : Int) ≤ 65536) = true := decide_eq_true (by omega)
  go_wp2_with fail
  replace hW0 := Lib.hid hW0
  refine (my _).mono ?_
  rintro _ _ ⟨rfl, rfl⟩
  obtain ⟨W1, hW1⟩ : ∃ W1, W0.alloc (.cells #[.slice A n c] 75) = W1 := ⟨_, rfl⟩
  have q1 : G3 w W1 P (.int .u64 0) (.int .u8 0) (.string ⟨#[]⟩) (.string ⟨#[]⟩) (.int .u64 0) (.slice none 0 0) := by rw [← hW1]; exact q0.below ((Below.refl _ _).alloc (Nat.le_refl _) _)
  have t1 : Tk w W1 (P + 1 + 1 + 1) l := ⟨A, n, c, by rw [← hW1, ← hs0]; exact Blk.new W0 _ _, hb, hl, hnc, by omega, q1.bw⟩
  have hsl : l.length ≤ 65536 := by omega
  replace hl := Lib.hid hl
  have cn := number_any w W1 (P + 1 + 1 + 1) l t1 (by omega)
  go_wp2_with fail
  clear q0 hs0
  replace hW1 := Lib.hid hW1
  have hx2 : (parseR l).bind (fun p => if p.2.2.length = 0 ∧ chk p.2.1 = true then some (p.1, p.2.1) else none) = x := hx
  clear hx
  unfold parseR at hx2
  rcases h1 : rdN l with _ | ⟨s, l1⟩
  · rw [h1] at cn hx2
    have hxx : x = none := by rw [← hx2]; rfl
    replace hxx := Lib.hid hxx
    clear hx2
    replace h1 := Lib.hid h1
    refine cn.mono ?_
    rintro e Wn q
    obtain ⟨rfl, gn⟩ := TkP.elim_no q
    clear q
    have q9 := q1.grown gn
    go_wp2
    exact give_up q9 hxx.out _ rfl rfl rfl
  have hn1 := rdN_len h1
  have hs64 := (rdN_some h1).2
  rw [h1] at cn hx2
  simp only [Option.bind_some] at hx2
  clear h1
  refine cn.mono ?_
  rintro e W2 q
  obtain ⟨rfl, gn, t2⟩ := TkP.elim_yes q
  clear q cn
  have q2 := q1.grown gn
  clear gn q1
  have da0 := q2.b0.cell
  have da1 := q2.b1.cell
  have za0 := q2.b0.frozen
  have za1 := q2.b1.frozen
  obtain ⟨W3, hW3⟩ : ∃ W3, W2.setCell ⟨P, 0, none⟩ (.int .u64 (s : Int)) = W3 := ⟨_, rfl⟩
  have q3 : G3 w W3 P (.int .u64 (s : Int)) (.int .u8 0) (.string ⟨#[]⟩) (.string ⟨#[]⟩) (.int .u64 0) (.slice none 0 0) := by rw [← hW3]; exact q2.set0 _
  have t3 : Tk w W3 (P + 1 + 1 + 1) l1 := by rw [← hW3]; exact t2.far (by show P + 1 + 1 + 1 ≠ P; omega) (by show w.heap.size ≤ P; omega) _
  have cb := byteT_any w W3 (P + 1 + 1 + 1) l1 t3 (by omega)
  go_wp2_with fail
  clear da0 da1 za0 za1 q2 t2
  replace hW3 := Lib.hid hW3
  rcases h2 : rdB l1 with _ | ⟨kind, l2⟩
  · rw [h2] at cb hx2
    have hxx : x = none := by rw [← hx2]; rfl
    replace hxx := Lib.hid hxx
    clear hx2
    replace h2 := Lib.hid h2
    refine cb.mono ?_
    rintro e Wn q
    obtain ⟨rfl, gn⟩ := TkP.elim_no q
    clear q
    have q9 := q3.grown gn
    go_wp2
    exact give_up q9 hxx.out _ rfl rfl rfl
  have hn2 : l2.length < l1.length := by have h := (rdB_some h2).1; rw [h]; simp
  have hk256 := (rdB_some h2).2
  rw [h2] at cb hx2
  simp only [Option.bind_some] at hx2
  clear h2
  refine cb.mono ?_
  rintro e W4 q
  obtain ⟨rfl, gn, t4⟩ := TkP.elim_yes q
  clear q cb
  have q4 := q3.grown gn
  clear gn q3
  have da0 := q4.b0.cell
  have da1 := q4.b1.cell
  have za0 := q4.b0.frozen
  have za1 := q4.b1.frozen
  obtain ⟨W5, hW5⟩ : ∃ W5, W4.setCell ⟨P + 1, 0, none⟩ (.int .u8 (kind : Int)) = W5 := ⟨_, rfl⟩
  have q5 : G3 w W5 P (.int .u64 (s : Int)) (.int .u8 (kind : Int)) (.string ⟨#[]⟩) (.string ⟨#[]⟩) (.int .u64 0) (.slice none 0 0) := by rw [← hW5]; exact q4.set1 rfl
  have t5 : Tk w W5 (P + 1 + 1 + 1) l2 := by rw [← hW5]; exact t4.far (by show P + 1 + 1 + 1 ≠ P + 1; omega) (by show w.heap.size ≤ P + 1; omega) _
  have d50 := q5.b0.cell
  have d51 := q5.b1.cell
  by_cases hs1 : s = 0
  · rw [if_pos (.inl hs1)] at hx2
    have hxx : x = none := by rw [← hx2]; rfl
    replace hxx := Lib.hid hxx
    clear hx2
    have d : decide ((0 : Int) < (s : Int)) = false := decide_eq_false (by omega)
    have dn : decide (0 < s) = false := decide_eq_false (by omega)
    replace hs1 := Lib.hid hs1
    go_wp2_with fail
    refine (mn _).mono ?_
    rintro _ _ ⟨rfl, rfl⟩
    go_wp2
    exact give_up q5 hxx.out _ rfl rfl rfl
  have ds : decide ((0 : Int) < (s : Int)) = true := decide_eq_true (by omega)
  have dsn : decide (0 < s) = true := decide_eq_true (by omega)
  by_cases hk4 : 4 < kind
  · rw [if_pos (.inr hk4)] at hx2
    have hxx : x = none := by rw [← hx2]; rfl
    replace hxx := Lib.hid hxx
    clear hx2
    have d : decide ((kind : Int) ≤ 4) = false := decide_eq_false (by omega)
    go_wp2_with fail
    refine (mn _).mono ?_
    rintro _ _ ⟨rfl, rfl⟩
    go_wp2
    exact give_up q5 hxx.out _ rfl rfl rfl
  rw [if_neg (by omega)] at hx2
  have d4 : decide ((kind : Int) ≤ 4) = true := decide_eq_true (by omega)
  have hkd : decide ((kind : Int) < 5) = true := decide_eq_true (by omega)
  obtain ⟨S, hSk⟩ : ∃ S, setOf kind = S := ⟨_, rfl⟩
  obtain ⟨tw, htw⟩ : ∃ b, two kind = b := ⟨_, rfl⟩
  obtain ⟨tr, htr⟩ : ∃ b, trim kind = b := ⟨_, rfl⟩
  obtain ⟨mny, hmn⟩ : ∃ b, many kind = b := ⟨_, rfl⟩
  have hand : (bits .and .i64 S 1 != 0) = tw ∧ (bits .and .i64 S 2 != 0) = tr ∧ (bits .and .i64 S 4 != 0) = mny := by
    subst hSk htw htr hmn
    have : kind = 0 ∨ kind = 1 ∨ kind = 2 ∨ kind = 3 ∨ kind = 4 := by omega
    rcases this with rfl | rfl | rfl | rfl | rfl <;> decide
  obtain ⟨a1, a2, a4⟩ := hand
  have g1 : W5.cell? ⟨0, kind, none⟩ = some (.int .i64 S) := ((hS.below q5.bw).2 kind (by omega)).trans (by rw [hSk])
  rw [htw, htr, hmn] at hx2
  replace hSk := Lib.hid hSk
  replace htw := Lib.hid htw
  replace htr := Lib.hid htr
  replace hmn := Lib.hid hmn
  replace hS := Lib.hid hS
  have ct := textT_any w W5 (P + 1 + 1 + 1) l2 t5 (by omega)
  go_wp2_with fail
  refine (my _).mono ?_
  rintro _ _ ⟨rfl, rfl⟩
  go_wp2_with fail
  clear da0 da1 za0 za1 q4 t4 d50 d51 g1
  replace hW5 := Lib.hid hW5
  rcases h3 : rdT l2 with _ | ⟨br, l3⟩
  · rw [h3] at ct hx2
    have hxx : x = none := by rw [← hx2]; rfl
    replace hxx := Lib.hid hxx
    clear hx2
    replace h3 := Lib.hid h3
    refine ct.mono ?_
    rintro e Wn q
    obtain ⟨rfl, gn⟩ := TkP.elim_no q
    clear q
    have q9 := q5.grown gn
    go_wp2
    exact give_up q9 hxx.out _ rfl rfl rfl
  have hn3 := rdT_len h3
  have hbr := (rdT_some h3).1
  rw [h3] at ct hx2
  simp only [Option.bind_some] at hx2
  clear h3
  refine ct.mono ?_
  rintro e W6 q
  obtain ⟨rfl, gn, t6⟩ := TkP.elim_yes q
  clear q ct
  have q6 := q5.grown gn
  clear gn q5
  have da0 := q6.b0.cell
  have da1 := q6.b1.cell
  have za0 := q6.b0.frozen
  have za1 := q6.b1.frozen
  replace t6 : Tk w W6 (P + 1 + 1 + 1) l3 := t6
  obtain ⟨W7, hW7⟩ : ∃ W7, W6.setCell ⟨P + 1, 1, none⟩ (.string br) = W7 := ⟨_, rfl⟩
  have q7 : G3 w W7 P (.int .u64 (s : Int)) (.int .u8 (kind : Int)) (.string br) (.string ⟨#[]⟩) (.int .u64 0) (.slice none 0 0) := by rw [← hW7]; exact q6.set1 rfl
  have t7 : Tk w W7 (P + 1 + 1 + 1) l3 := by rw [← hW7]; exact t6.far (by show P + 1 + 1 + 1 ≠ P + 1; omega) (by show w.heap.size ≤ P + 1; omega) _
  replace hx2 := Lib.hid hx2
  go_upto_if 38 with (fail)
  clear da0 da1 za0 za1 q6 t6
  replace hW7 := Lib.hid hW7
  go_cut [] from 39 to 41 (fun wc => ∃ (ot : ByteArray) (l4 : List UInt8), (if tw = true then rdT l3 else some (ByteArray.empty, l3)) = some (ot, l4) ∧ l4.length ≤ l3.length ∧ ot.size ≤ 65536 ∧ G3 w wc P (.int .u64 (s : Int)) (.int .u8 (kind : Int)) (.string br) (.string ot) (.int .u64 0) (.slice none 0 0) ∧ Tk w wc (P + 1 + 1 + 1) l4)
  case first =>
    cases tw
    · go_wp2
      go_meet
      case rel => exact ⟨ByteArray.empty, l3, rfl, Nat.le_refl _, Nat.zero_le _, q7, t7⟩
    · have ct := textT_any w W7 (P + 1 + 1 + 1) l3 t7 (by omega)
      go_wp2_with fail
      rcases h4 : rdT l3 with _ | ⟨ot, l4⟩
      · have hxx : x = none := by rw [← hx2.out, h4]; rfl
        replace hxx := Lib.hid hxx
        rw [h4] at ct
        replace h4 := Lib.hid h4
        refine ct.mono ?_
        rintro e Wn q
        obtain ⟨rfl, gn⟩ := TkP.elim_no q
        clear q
        have q9 := q7.grown gn
        go_wp2
        exact give_up q9 hxx.out _ rfl rfl rfl
      · have hn4 := rdT_len h4
        have hot : ot.size ≤ 65536 := by
          have h := (rdT_some h4).1
          have h2 := congrArg List.length h
          unfold encS at h2
          simp only [List.length_append] at h2
          have h3 : ot.data.toList.length = ot.size := rfl
          omega
        rw [h4] at ct
        replace h4 := Lib.hid h4
        refine ct.mono ?_
        rintro e W8 q
        obtain ⟨rfl, gn, t8⟩ := TkP.elim_yes q
        clear q ct
        have q8 := q7.grown gn
        have da0 := q8.b0.cell
        have da1 := q8.b1.cell
        have za1 := q8.b1.frozen
        replace t8 : Tk w W8 (P + 1 + 1 + 1) l4 := t8
        go_wp2
        go_meet
        case rel => exact ⟨ot, l4, by simpa using h4.out, Nat.le_of_lt hn4, hot, q8.set1 rfl, t8.far (by show P + 1 + 1 + 1 ≠ P + 1; omega) (by show w.heap.size ≤ P + 1; omega) _⟩
  case rest =>
    obtain ⟨ot, l4, e4, hn4, hot, q8, t8⟩ := hcut
    obtain ⟨W8, rfl⟩ : ∃ y : World, y = wc := ⟨_, rfl⟩
    replace hx2 := hx2.out
    rw [e4] at hx2
    simp only [Option.bind_some] at hx2
    replace hx2 := Lib.hid hx2
    clear e4 q7 t7
    go_upto_if 44 with (fail)
    go_cut [] from 45 to 47 (fun wc => ∃ (pl : Nat) (l5 : List UInt8), (if tr = true then rdN l4 else some (0, l4)) = some (pl, l5) ∧ l5.length ≤ l4.length ∧ pl < 18446744073709551616 ∧ G3 w wc P (.int .u64 (s : Int)) (.int .u8 (kind : Int)) (.string br) (.string ot) (.int .u64 (pl : Int)) (.slice none 0 0) ∧ Tk w wc (P + 1 + 1 + 1) l5)
    case first =>
      cases tr
      · go_wp2
        go_meet
        case rel => exact ⟨0, l4, rfl, Nat.le_refl _, by omega, q8, t8⟩
      · have cn := number_any w W8 (P + 1 + 1 + 1) l4 t8 (by omega)
        go_wp2_with fail
        rcases h5 : rdN l4 with _ | ⟨pl, l5⟩
        · have hxx : x = none := by rw [← hx2.out, h5]; rfl
          replace hxx := Lib.hid hxx
          rw [h5] at cn
          replace h5 := Lib.hid h5
          refine cn.mono ?_
          rintro e Wn q
          obtain ⟨rfl, gn⟩ := TkP.elim_no q
          clear q
          have q9 := q8.grown gn
          go_wp2
          exact give_up q9 hxx.out _ rfl rfl rfl
        · have hn5 := rdN_len h5
          have hpl := (rdN_some h5).2
          rw [h5] at cn
          replace h5 := Lib.hid h5
          refine cn.mono ?_
          rintro e W9 q
          obtain ⟨rfl, gn, t9⟩ := TkP.elim_yes q
          clear q cn
          have q9 := q8.grown gn
          have da0 := q9.b0.cell
          have da1 := q9.b1.cell
          have za1 := q9.b1.frozen
          replace t9 : Tk w W9 (P + 1 + 1 + 1) l5 := t9
          go_wp2
          go_meet
          case rel => exact ⟨pl, l5, by simpa using h5.out, Nat.le_of_lt hn5, hpl, q9.set1 rfl, t9.far (by show P + 1 + 1 + 1 ≠ P + 1; omega) (by show w.heap.size ≤ P + 1; omega) _⟩
    case rest =>
      obtain ⟨pl, l5, e5, hn5, hpl, q9, t9⟩ := hcut
      obtain ⟨W9, rfl⟩ : ∃ y : World, y = wc := ⟨_, rfl⟩
      replace hx2 := hx2.out
      rw [e5] at hx2
      simp only [Option.bind_some] at hx2
      replace hx2 := Lib.hid hx2
      clear e5 q8 t8
      go_upto_if 50 with (fail)
      go_cut [7] from 51 to 63 (fun v7 wc => ∃ (cs : List Ch) (l7 : List UInt8) (A' : Option Addr) (k cap : Nat), (if mny = true then (rdN l5).bind (fun x => getCs x.1 x.2) else some ([], l5)) = some (cs, l7) ∧ l7.length ≤ l5.length ∧ cs.length = k ∧ k ≤ 65536
        ∧ G3 w wc P (.int .u64 (s : Int)) (.int .u8 (kind : Int)) (.string br) (.string ot) (.int .u64 (pl : Int)) (.slice A' k cap) ∧ Tk w wc (P + 1 + 1 + 1) l7 ∧ wc.ownsRow (P + 1 + 1 + 1 + 1) 51 4 (.slice A' k cap) k (chC cs))
      case first =>
        cases mny
        · go_wp2
          go_meet
          case rel => exact ⟨[], l5, none, 0, 0, rfl, Nat.le_refl _, rfl, Nat.zero_le _, q9, t9, World.ownsRow_nil _ _ _ _⟩
        · have cn := number_any w W9 (P + 1 + 1 + 1) l5 t9 (by omega)
          go_wp2_with fail
          rcases h6 : rdN l5 with _ | ⟨m, l6⟩
          · have hxx : x = none := by rw [← hx2.out, h6]; rfl
            replace hxx := Lib.hid hxx
            rw [h6] at cn
            replace h6 := Lib.hid h6
            refine cn.mono ?_
            rintro e Wn q
            obtain ⟨rfl, gn⟩ := TkP.elim_no q
            clear q
            have q10 := q9.grown gn
            go_wp2
            exact give_up q10 hxx.out _ rfl rfl rfl
          · have hn6 := rdN_len h6
            rw [h6] at cn
            have hx3 := hx2.out
            rw [h6] at hx3
            simp only [Option.bind_some, if_true] at hx3
            replace hx3 := Lib.hid hx3
            replace h6 := Lib.hid h6
            refine cn.mono ?_
            rintro e W10 q
            obtain ⟨rfl, gn, t10⟩ := TkP.elim_yes q
            clear q cn
            have q10 := q9.grown gn
            replace t10 : Tk w W10 (P + 1 + 1 + 1) l6 := t10
            clear q9 t9 gn
            go_wp2_with fail
            go_loopw [7] (fun v7 wr => ∃ (j k cap : Nat) (A' : Option Addr) (cs' : List Ch) (l' : List UInt8), v7 = .int .u64 (j : Int) ∧ j < 18446744073709551616 ∧ getCs m l6 = (getCs j l').bind (fun q => some (cs' ++ q.1, q.2)) ∧ cs'.length = k ∧ k + l'.length ≤ l6.length
              ∧ G3 w wr P (.int .u64 (s : Int)) (.int .u8 (kind : Int)) (.string br) (.string ot) (.int .u64 (pl : Int)) (.slice A' k cap) ∧ Tk w wr (P + 1 + 1 + 1) l' ∧ wr.ownsRow (P + 1 + 1 + 1 + 1) 51 4 (.slice A' k cap) k (chC cs')) (fun v7 _ => (intOf v7).toNat)
            case atStart => exact ⟨m, 0, 0, none, [], l6, rfl, (rdN_some h6.out).2, by cases getCs m l6 <;> rfl, rfl, by omega, q10, t10, World.ownsRow_nil _ _ _ _⟩
            case round =>
              obtain ⟨j, k, cap, A', cs', l', rfl, hj, hgc, hk, hkl, qr, tr', hown⟩ := hrel
              clear q10 t10
              by_cases hj0 : j = 0
              · subst hj0
                have hgc2 : getCs m l6 = some (cs', l') := by rw [hgc]; simp [getCs]
                replace hgc2 := Lib.hid hgc2
                clear hgc
                go_wp2
                go_meet
                case rel => exact ⟨cs', l', A', k, cap, by rw [if_pos trivial, h6.out]; exact hgc2.out, by omega, hk, by omega, qr, tr', hown⟩
              · obtain ⟨i, rfl⟩ : ∃ i, j = i + 1 := ⟨j - 1, by omega⟩
                have dj : decide (0 < i + 1) = true := decide_eq_true (by omega)
                have djI : decide ((0 : Int) < (i : Int) + 1) = true := decide_eq_true (by omega)
                have hgc3 : getCs m l6 = ((getC l').bind fun q => (getCs i q.2).bind fun r => some (q.1 :: r.1, r.2)).bind (fun q => some (cs' ++ q.1, q.2)) := hgc
                have hlr : l'.length ≤ 1000000 := by omega
                have ctr : Tk w wr.drew (P + 1 + 1 + 1) l' := tr'.drew
                have cc := changeT_any w wr.drew (P + 1 + 1 + 1) l' ctr hlr
                have qd : G3 w wr.drew P (.int .u64 (s : Int)) (.int .u8 (kind : Int)) (.string br) (.string ot) (.int .u64 (pl : Int)) (.slice A' k cap) := ⟨qr.b0, qr.b1, qr.b2, qr.bw.drew, qr.sz⟩
                have d1 := qr.b1.cell
                have d1d := qd.b1.cell
                clear hgc
                go_wp2_with fail
                rcases h7 : getC l' with _ | ⟨⟨ck, cva, cki, cv⟩, l''⟩
                · have hxx : x = none := by rw [← hx3.out, hgc3, h7]; rfl
                  replace hxx := Lib.hid hxx
                  rw [h7] at cc
                  replace h7 := Lib.hid h7
                  replace hgc3 := Lib.hid hgc3
                  (first | go_region_dies | fail)
                  all_goals
                    refine cc.mono ?_
                    rintro e Wn q
                    obtain ⟨rfl, gn⟩ := TkP.elim_no q
                    clear q
                    have q11 := qd.grown gn
                    go_wp2
                    exact give_up q11 hxx.out _ rfl rfl rfl
                · have hcm := getC_some h7
                  have hn7 : l''.length < l'.length := by
                    have h := congrArg List.length hcm.1
                    unfold encC at h
                    simp only [List.length_append, List.length_cons, List.length_nil] at h
                    omega
                  have hgc4 : getCs m l6 = (getCs i l'').bind (fun q => some ((cs' ++ [⟨ck, cva, cki, cv⟩]) ++ q.1, q.2)) := by
                    rw [hgc3, h7]
                    simp only [Option.bind_some]
                    cases getCs i l'' with
                    | none => rfl
                    | some q => simp
                  rw [h7] at cc
                  have oneC := chC_one [⟨ck, cva, cki, cv⟩]
                  have hownd : wr.drew.ownsRow (P + 1 + 1 + 1 + 1) 51 4 (.slice A' k cap) k (chC cs') := hown
                  replace hgc4 := Lib.hid hgc4
                  replace h7 := Lib.hid h7
                  replace hgc3 := Lib.hid hgc3
                  replace hcm := Lib.hid hcm
                  replace hx3 := Lib.hid hx3
                  replace hx2 := Lib.hid hx2
                  refine wp_region_noPanic ?_
                  go_region_law (first
                    | (have hh8 := own8; refine step_app _ (by rfl) (.tmp 58) (.tmp 61) (by rfl) Tryd.underlying24 chInfo (by rfl) (by omega) own8 (by rfl) _ 1 1 (Rd.ch W8 ⟨ck, cva, cki, cv⟩) (by rfl) oneC (by unfold maxLen; omega) (by omega) (by have := t8.lt; simp; omega) ?_; intro v9 w9 hown9 hgrow9 hlie9; have q9' := (q8.below ((Below.refl _ _).alloc (Nat.le_refl _) _)).grownR hgrow9 (fun j hj => by have := (own8.lt j hj).1; omega); have t9' := (t8.alloc _).grownR hgrow9 (fun j hj => by have := (own8.lt j hj).1; omega); have d9 := q9'.b1.cell; have z9 := q9'.b1.frozen; obtain ⟨A9, cap9, rfl⟩ := own_slice hown9)
                    | (go_simp; go_at_call 48; refine cc.mono ?_; rintro e W8 q; obtain ⟨rfl, gn, t8⟩ := TkP.elim_yes q; clear q; have q8 := qd.grown gn; have d8 := q8.b1.cell; have d8a := (q8.b1.alloc (.cells #[.string ck, .int .u32 (cva : Int), .int .u8 (cki : Int), .string cv] 51)).cell; have own8 := (own_far hownd gn (by omega)).alloc (.cells #[.string ck, .int .u32 (cva : Int), .int .u8 (cki : Int), .string cv] 51)))
                  all_goals
                    refine NoPanic.normal ?_
                    rw [← chC_append] at hown9
                    have qn : G3 w (w9.setCell ⟨P + 1, 4, none⟩ (.slice A9 (k + 1) cap9)) P (.int .u64 (s : Int)) (.int .u8 (kind : Int)) (.string br) (.string ot) (.int .u64 (pl : Int)) (.slice A9 (k + 1) cap9) := q9'.set1 rfl
                    have tn := t9'.far (p := ⟨P + 1, 4, none⟩) (by show P + 1 + 1 + 1 ≠ P + 1; omega) (by show w.heap.size ≤ P + 1; omega) (.slice A9 (k + 1) cap9)
                    have on := own_far hown9 (only_store (World.grownBy.refl w9 (some (P + 1))) (p := ⟨P + 1, 4, none⟩) rfl (.slice A9 (k + 1) cap9)) (by omega)
                    clear d9 z9 d8 d8a own8 hlie9 hgrow9 hown9 gn q8 t8 q9' t9' d1 d1d qd ctr qr tr' hown hownd
                    go_wp2
                    go_roundw
                    case rel => exact ⟨i, k + 1, cap9, A9, cs' ++ [⟨ck, cva, cki, cv⟩], l'', by go_num, by omega, hgc4.out, by rw [List.length_append, hk]; rfl, by omega, qn, tn, on⟩
                    case measure => simp [intOf] <;> omega
      case rest =>
        obtain ⟨cs, l7, A', k, cap, e6, hn7, hk, hk6, q10, t10, own10⟩ := hcut
        obtain ⟨W10, rfl⟩ : ∃ y : World, y = wc := ⟨_, rfl⟩
        have hx4 := hx2.out
        rw [e6] at hx4
        simp only [Option.bind_some] at hx4
        clear hx2 e6 q9 t9
        have hbr6 : br.size ≤ 65536 := by
          have h2 := congrArg List.length hbr
          unfold encS at h2
          simp only [List.length_append] at h2
          have h3 : br.data.toList.length = br.size := rfl
          omega
        obtain ⟨A7, n7, c7, kT, bT, lT, _, _, _⟩ := id t10
        have cT := kT.cell
        have d0 := q10.b0.cell
        have d1 := q10.b1.cell
        by_cases hz : l7.length = 0
        case neg =>
          rw [if_neg (fun h => hz h.1)] at hx4
          have hxx : x = none := hx4.symm
          replace hxx := Lib.hid hxx
          have f7 : ((n7 : Int) == 0) = false := by simp; omega
          clear hx4
          replace hz := Lib.hid hz
          replace lT := Lib.hid lT
          go_wp2_with fail
          refine (mn _).mono ?_
          rintro _ _ ⟨rfl, rfl⟩
          go_wp2
          exact give_up q10 hxx.out _ rfl rfl rfl
        case pos =>
          have f7 : ((n7 : Int) == 0) = true := by simp; omega
          have hcs : Cs W10 A' cs := by unfold Cs; rw [hk]; exact Rd.of_own own10
          have cc := check_any W10 (hS.out.below q10.bw) kind br ot pl A' k cap cs hk (by omega) hcs (by omega) (by omega)
          obtain ⟨M, hM⟩ : ∃ M, chk ⟨kind, br, ot, pl, cs⟩ = M := ⟨_, rfl⟩
          rw [hM] at cc hx4
          replace hz := Lib.hid hz
          replace lT := Lib.hid lT
          replace hx4 := Lib.hid hx4
          go_wp2_with fail
          refine cc.mono ?_
          rintro _ W11 ⟨rfl, b11⟩
          have q11 := q10.below b11
          have own11 := own_below own10 b11
          clear cc hM d0 d1 cT kT
          cases M
          · have hxx : x = none := by rw [← hx4.out, if_neg (by simp)]
            replace hxx := Lib.hid hxx
            go_wp2_with fail
            refine (mn _).mono ?_
            rintro _ _ ⟨rfl, rfl⟩
            go_wp2
            exact give_up q11 hxx.out _ rfl rfl rfl
          · have hxx : x = some (s, ⟨kind, br, ot, pl, cs⟩) := by rw [← hx4.out, if_pos ⟨hz.out, rfl⟩]
            replace hxx := Lib.hid hxx
            have d1 := q11.b1.cell
            have z1 := q11.b1.frozen
            have hcap := (own_cap own11).1
            obtain ⟨W12, hW12⟩ : ∃ W12, W11.setCell ⟨P + 1, 4, none⟩ (.slice A' k k) = W12 := ⟨_, rfl⟩
            have q12 : G3 w W12 P (.int .u64 (s : Int)) (.int .u8 (kind : Int)) (.string br) (.string ot) (.int .u64 (pl : Int)) (.slice A' k k) := by rw [← hW12]; exact q11.set1 rfl
            have own12 : W12.ownsRow (P + 1 + 1 + 1 + 1) 51 4 (.slice A' k cap) k (chC cs) := by
              rw [← hW12]
              exact own_far own11 (only_store (World.grownBy.refl W11 (some (P + 1))) (p := ⟨P + 1, 4, none⟩) rfl _) (by omega)
            go_wp2_with fail
            refine (my _).mono ?_
            rintro _ _ ⟨rfl, rfl⟩
            go_wp2_with fail
            refine (clipCh_any A' k cap hcap W11).mono ?_
            rintro _ _ ⟨rfl, rfl⟩
            go_wp2_with fail
            clear d1 z1 q10 q11 t10 own10 own11
            replace hW12 := Lib.hid hW12
            have y0 : W12.setCell ⟨P, 0, none⟩ (.int .u64 (s : Int)) = W12 := q12.b0.self rfl
            have y1 : W12.setCell ⟨P + 1, 0, none⟩ (.int .u8 (kind : Int)) = W12 := q12.b1.self rfl
            have y2 : W12.setCell ⟨P + 1, 1, none⟩ (.string br) = W12 := q12.b1.self rfl
            have y3 : W12.setCell ⟨P + 1, 2, none⟩ (.string ot) = W12 := q12.b1.self rfl
            have y4 : W12.setCell ⟨P + 1, 3, none⟩ (.int .u64 (pl : Int)) = W12 := q12.b1.self rfl
            have y5 : W12.setCell ⟨P + 1, 4, none⟩ (.slice A' k k) = W12 := q12.b1.self rfl
            have y6 : W12.setCell ⟨P + 1 + 1, 0, none⟩ (.int .i64 0) = W12 := q12.b2.self rfl
            have d0 := q12.b0.cell
            have d1 := q12.b1.cell
            have d2 := q12.b2.cell
            have z0 := q12.b0.frozen
            have z1 := q12.b1.frozen
            have z2 := q12.b2.frozen
            refine wp_region_noPanic ?_
            go_region
            refine NoPanic.normal ?_
            clear y0 y1 y2 y3 y4 y5 y6 d0 d1 d2 z0 z1 z2
            go_wp2
            refine leaves_cons (f := 43) (args := #[.pointer (some ⟨P, 0, none⟩), .pointer (some ⟨P + 1, 0, none⟩), .pointer (some ⟨P + 1 + 1, 0, none⟩)]) (by simp) (by simp [go_sem]) ?_
            refine (catch_idle ⟨P, 0, none⟩ ⟨P + 1, 0, none⟩ ⟨P + 1 + 1, 0, none⟩ _).mono ?_
            rintro e u' w'' ⟨rfl, rfl, rfl⟩
            refine ⟨_, read_get _ rfl rfl rfl q12.b0.drew q12.b1.drew q12.b2.drew, ?_⟩
            rw [hxx.out]
            have own13 : W12.drew.ownsRow (P + 1 + 1 + 1 + 1) 51 4 (.slice A' k cap) k (chC cs) := own12
            exact ⟨q12.bw.drew, A', k, cap, rfl, hk, own_base own13 (by omega)⟩
  end Go.Proofs.YtccbldlnfaiphaaDoor
