/- Walks of the taker's change; of what Get defers. -/
import Derived.Test.YtccbldlnfaiphaaDoorOpD
import Derived.Recover
import Derived.Test.YtccbldlnfaiphaaDoorBlkOps
set_option linter.unusedSimpArgs false
set_option linter.unusedVariables false
namespace Herb.Cm
open Go Go.RowKit Herb
theorem grown_new {a b : World} {g : Option Nat} (h : a.grownBy b g) {p : Addr} (hp : a.heap.size ≤ p.block) (u : Value) : a.grownBy (b.setCell p u) g :=
  ⟨h.os, h.tape, h.output, by simpa [World.setCell] using h.size, fun i hi hne => (Below.heap_setCell b p u i (by omega)).trans (h.block i hi hne)⟩
theorem grown_alloc {a b : World} {g : Option Nat} (h : a.grownBy b g) (o : Obj) : a.grownBy (b.alloc o) g :=
  ⟨h.os, h.tape, h.output, Nat.le_trans h.size (by simp), fun i hi hne => (Below.heap_alloc b o i (Nat.lt_of_lt_of_le hi h.size)).trans (h.block i hi hne)⟩
theorem below_store {w W : World} (h : Below w.heap.size w W) {p : Addr} (hp : w.heap.size ≤ p.block) (u : Value) : Below w.heap.size w (W.setCell p u) :=
  h.grown (only_store (World.grownBy.refl W _) (p := p) rfl u) h.size (fun k hk => by cases hk; exact hp)
end Herb.Cm
namespace Go.Proofs.YtccbldlnfaiphaaDoor
open Go Go.RowKit Herb Herb.Cm
theorem TkP.elim_no {w W W' : World} {T : Nat} {e : Ending} (h : TkP w W T none e W') : e = .panicked PF ∧ W.grownBy W' (some T) := ⟨h.2, h.1⟩
theorem TkP.elim_yes {w W W' : World} {T : Nat} {e : Ending} {v : Value} {r : List UInt8} (h : TkP w W T (some (v, r)) e W') : e = .returned v ∧ W.grownBy W' (some T) ∧ Tk w W' T r := ⟨h.2.1, h.1, h.2.2⟩
theorem Tk.far {w W : World} {T : Nat} {l : List UInt8} (h : Tk w W T l) {p : Addr} (hp : T ≠ p.block) (hw : w.heap.size ≤ p.block) (u : Value) : Tk w (W.setCell p u) T l := by
  obtain ⟨A, n, c, hk, hb, hl, hnc, hT, hB⟩ := h
  exact ⟨A, n, c, hk.far hp u, hb, hl, hnc, hT, below_store hB hw u⟩
theorem Tk.alloc {w W : World} {T : Nat} {l : List UInt8} (h : Tk w W T l) (o : Obj) : Tk w (W.alloc o) T l := by
  obtain ⟨A, n, c, hk, hb, hl, hnc, hT, hB⟩ := h
  exact ⟨A, n, c, hk.alloc o, hb, hl, hnc, hT, hB.alloc hB.size o⟩
theorem Tk.below {w W W' : World} {T : Nat} {l : List UInt8} (h : Tk w W T l) (hb' : Below W.heap.size W W') : Tk w W' T l := by
  obtain ⟨A, n, c, hk, hb, hl, hnc, hT, hB⟩ := h
  exact ⟨A, n, c, hk.below hb' hk.lt, hb, hl, hnc, hT, hB.trans (hb'.mono hB.size)⟩
theorem Tk.lt {w W : World} {T : Nat} {l : List UInt8} (h : Tk w W T l) : T < W.heap.size := by
  obtain ⟨A, n, c, hk, _⟩ := h
  exact hk.lt
theorem Tk.base {w W : World} {T : Nat} {l : List UInt8} (h : Tk w W T l) : w.heap.size ≤ T ∧ Below w.heap.size w W := by
  obtain ⟨A, n, c, hk, hb, hl, hnc, hT, hB⟩ := h
  exact ⟨hT, hB⟩
/-- What is behind a call of the taker's, in whatever world that the caller made. -/
theorem TkP.of {w W W1 W' : World} {T : Nat} {x : Option (Value × List UInt8)} {e : Ending} (h : W.grownBy W1 (some T)) (k : TkP w W1 T x e W') : TkP w W T x e W' := ⟨grown_trans h k.1, k.2⟩

theorem ch_one (k v : ByteArray) (a b : Int) : (#[.string k, .int .u32 a, .int .u8 b, .string v] : Array Value).all (·.oneCell') = true := by simp [Value.oneCell', Value.cells]
theorem chSz : (Tryd.prog.info? 51).map (·.size) = some 4 := by kernel_rfl
set_option maxRecDepth 100000 in
set_option maxHeartbeats 3200000 in
theorem changeT_any (w W : World) (T : Nat) (l : List UInt8) (h : Tk w W T l) (hl : l.length ≤ 1000000) :
    Calls Tryd.prog 48 #[.pointer (some ⟨T, 0, none⟩)] W fun e W' => TkP w W T ((getC l).map fun p => (.agg #[.string p.1.k, .int .u32 (p.1.va : Int), .int .u8 (p.1.ki : Int), .string p.1.v], p.2)) e W' := by
  obtain ⟨x, hx⟩ : ∃ x, (getC l).map (fun p => ((.agg #[.string p.1.k, .int .u32 (p.1.va : Int), .int .u8 (p.1.ki : Int), .string p.1.v] : Value), p.2)) = x := ⟨_, rfl⟩
  rw [hx]
  have hTP : T < W.heap.size := h.lt
  have hw0 := h.base
  have hwP : w.heap.size ≤ W.heap.size := hw0.2.size
  obtain ⟨P, hP⟩ : ∃ P, W.heap.size = P := ⟨_, rfl⟩
  obtain ⟨W0, hW0⟩ : ∃ W0, W.alloc (.cells #[.string ⟨#[]⟩, .int .u32 0, .int .u8 0, .string ⟨#[]⟩] 51) = W0 := ⟨_, rfl⟩
  have g0 : W.grownBy W0 (some T) := by rw [← hW0]; exact grown_alloc (World.grownBy.refl W _) _
  have k0 : Blk W0 P 51 #[.string ⟨#[]⟩, .int .u32 0, .int .u8 0, .string ⟨#[]⟩] := by rw [← hW0, ← hP]; exact Blk.new W _ _
  have t0 : Tk w W0 T l := by rw [← hW0]; exact h.alloc _
  rw [hP] at hTP hwP
  have hWP : W.heap.size ≤ P := by omega
  have hne : some P ≠ some T := fun e => by injection e; omega
  have hTP' : T ≠ P := by omega
  clear h hw0
  have my := fun W => must_yes W
  have mn := fun W => must_no W
  have ct := textT_any w W0 T l t0 hl
  unfold getC at hx
  go_enter Tryd.func48, Tryd.ntmps48
  go_wp2_with (first | rw [hP, hW0] | fail)
  replace hW0 := Lib.hid hW0
  rcases h1 : rdT l with _ | ⟨ks, l1⟩
  · rw [h1] at ct hx
    replace h1 := Lib.hid h1
    have hxx : x = none := by rw [← hx]; rfl
    replace hxx := Lib.hid hxx
    clear hx
    refine ct.mono ?_
    rintro e Wn q
    obtain ⟨rfl, gn⟩ := TkP.elim_no q
    clear q
    go_wp2
    exact ⟨rfl, TkP.no hxx.out (grown_trans g0 gn)⟩
  have hl1 := rdT_len h1
  rw [h1] at ct hx
  simp only [Option.bind_some] at hx
  clear h1
  refine ct.mono ?_
  rintro e W1 q
  obtain ⟨rfl, g1, t1⟩ := TkP.elim_yes q
  clear q ct
  obtain ⟨W2, hW2⟩ : ∃ W2, W1.setCell ⟨P, 0, none⟩ (.string ks) = W2 := ⟨_, rfl⟩
  have k1 := k0.grown g1 hne
  have c1 := k1.cell
  have z1 := k1.frozen
  have k2 : Blk W2 P 51 #[.string ks, .int .u32 0, .int .u8 0, .string ⟨#[]⟩] := by rw [← hW2]; exact k1.store 0 _
  have t2 : Tk w W2 T l1 := by rw [← hW2]; exact t1.far hTP' hwP _
  have g2 : W.grownBy W2 (some T) := by rw [← hW2]; exact grown_new (grown_trans g0 g1) hWP _
  have cn := number_any w W2 T l1 t2 (by omega)
  go_wp2_with (first | rw [hW2] | fail)
  clear k0 g0 t0 c1 z1 k1 t1 g1
  replace hW2 := Lib.hid hW2
  rcases h2 : rdN l1 with _ | ⟨n, l2⟩
  · rw [h2] at cn hx
    replace h2 := Lib.hid h2
    have hxx : x = none := by rw [← hx]; rfl
    replace hxx := Lib.hid hxx
    clear hx
    refine cn.mono ?_
    rintro e Wn q
    obtain ⟨rfl, gn⟩ := TkP.elim_no q
    clear q
    go_wp2
    exact ⟨rfl, TkP.no hxx.out (grown_trans g2 gn)⟩
  have hl2 := rdN_len h2
  rw [h2] at cn hx
  simp only [Option.bind_some] at hx
  clear h2
  refine cn.mono ?_
  rintro e W3 q
  obtain ⟨rfl, g3', t3⟩ := TkP.elim_yes q
  clear q cn
  have k3 := k2.grown g3' hne
  have g3 := grown_trans g2 g3'
  clear k2 g2 t2 g3'
  by_cases hn : 4294967295 < n
  · rw [if_pos hn] at hx
    have hxx : x = none := by rw [← hx]; rfl
    replace hxx := Lib.hid hxx
    have d : decide ((n : Int) ≤ 4294967295) = false := decide_eq_false (by omega)
    clear hx
    go_wp2_with fail
    refine (mn _).mono ?_
    rintro _ _ ⟨rfl, rfl⟩
    go_wp2
    exact ⟨rfl, TkP.no hxx.out g3⟩
  rw [if_neg hn] at hx
  have d : decide ((n : Int) ≤ 4294967295) = true := decide_eq_true (by omega)
  have hn32 : (n : Int) % 4294967296 = (n : Int) := by omega
  have cb := byteT_any w W3 T l2 t3 (by omega)
  go_wp2_with fail
  refine (my _).mono ?_
  rintro _ _ ⟨rfl, rfl⟩
  go_wp2_with fail
  rcases h3 : rdB l2 with _ | ⟨ki, l3⟩
  · rw [h3] at cb hx
    replace h3 := Lib.hid h3
    have hxx : x = none := by rw [← hx]; rfl
    replace hxx := Lib.hid hxx
    clear hx
    refine cb.mono ?_
    rintro e Wn q
    obtain ⟨rfl, gn⟩ := TkP.elim_no q
    clear q
    go_wp2
    exact ⟨rfl, TkP.no hxx.out (grown_trans g3 gn)⟩
  have hl3 : l3.length ≤ l2.length := by
    have := (rdB_some h3).1
    rw [this]; simp
  rw [h3] at cb hx
  simp only [Option.bind_some] at hx
  clear h3
  refine cb.mono ?_
  rintro e W4 q
  obtain ⟨rfl, g4', t4⟩ := TkP.elim_yes q
  clear q cb
  have k4 := k3.grown g4' hne
  have g4 := grown_trans g3 g4'
  have c4 := k4.cell
  have z4 := k4.frozen
  obtain ⟨W5, hW5⟩ : ∃ W5, (W4.setCell ⟨P, 1, none⟩ (.int .u32 (n : Int))).setCell ⟨P, 2, none⟩ (.int .u8 (ki : Int)) = W5 := ⟨_, rfl⟩
  have k5 : Blk W5 P 51 #[.string ks, .int .u32 (n : Int), .int .u8 (ki : Int), .string ⟨#[]⟩] := by rw [← hW5]; exact (k4.store 1 _).store 2 _
  have t5 : Tk w W5 T l3 := by rw [← hW5]; exact (t4.far hTP' hwP _).far hTP' hwP _
  have g5 : W.grownBy W5 (some T) := by rw [← hW5]; exact grown_new (grown_new g4 hWP _) hWP _
  clear k3 g3 t3 g4'
  have c5 := k5.cell
  by_cases hk0 : ki = 0
  · subst hk0
    replace hW5 : (W4.setCell ⟨P, 1, none⟩ (.int .u32 (n : Int))).setCell ⟨P, 2, none⟩ (.int .u8 0) = W5 := hW5
    rw [if_pos rfl] at hx
    have ct := textT_any w W5 T l3 t5 (by omega)
    go_wp2_with (first | rw [hW5] | fail)
    clear c4 z4 k4 t4 g4
    replace hW5 := Lib.hid hW5
    rcases h4 : rdT l3 with _ | ⟨v, l4⟩
    · rw [h4] at ct hx
      replace h4 := Lib.hid h4
      have hxx : x = none := by rw [← hx]; rfl
      replace hxx := Lib.hid hxx
      clear hx
      refine ct.mono ?_
      rintro e Wn q
      obtain ⟨rfl, gn⟩ := TkP.elim_no q
      clear q
      go_wp2
      exact ⟨rfl, TkP.no hxx.out (grown_trans g5 gn)⟩
    rw [h4] at ct hx
    simp only [Option.bind_some] at hx
    clear h4
    refine ct.mono ?_
    rintro e W6 q
    obtain ⟨rfl, g6', t6⟩ := TkP.elim_yes q
    clear q ct
    have k6 := k5.grown g6' hne
    have g6 := grown_trans g5 g6'
    have c6 := k6.cell
    have z6 := k6.frozen
    obtain ⟨W7, hW7⟩ : ∃ W7, W6.setCell ⟨P, 3, none⟩ (.string v) = W7 := ⟨_, rfl⟩
    have k7 : Blk W7 P 51 #[.string ks, .int .u32 (n : Int), .int .u8 0, .string v] := by rw [← hW7]; exact k6.store 3 _
    have t7 : Tk w W7 T l4 := by rw [← hW7]; exact t6.far hTP' hwP _
    have g7 : W.grownBy W7 (some T) := by rw [← hW7]; exact grown_new g6 hWP _
    have c7 := k7.cell
    clear k5 g5 t5 c5 g6'
    obtain ⟨M, hM⟩ : ∃ M, chB ⟨ks, n, 0, v⟩ = M := ⟨_, rfl⟩
    have cc := change_any W7 ks v n 0
    rw [hM] at cc hx
    go_wp2_with (first | rw [hW7] | fail)
    clear hM
    refine cc.mono ?_
    clear cc
    rintro _ W8 ⟨rfl, b8⟩
    have k8 := k7.below b8 k7.lt
    have g8 := grown_trans g7 (grown_of_below b8 (some T))
    have t8 := t7.below b8
    have c8 := k8.cell
    cases M
    · have hxx : x = none := by rw [← hx]; rfl
      replace hxx := Lib.hid hxx
      clear hx
      go_wp2_with fail
      refine (mn _).mono ?_
      rintro _ _ ⟨rfl, rfl⟩
      go_wp2
      exact ⟨rfl, TkP.no hxx.out g8⟩
    · have hxx : x = some (.agg #[.string ks, .int .u32 (n : Int), .int .u8 (0 : Nat), .string v], l4) := by rw [← hx]; rfl
      replace hxx := Lib.hid hxx
      clear hx
      go_wp2_with fail
      refine (my _).mono ?_
      rintro _ _ ⟨rfl, rfl⟩
      go_wp2_with (first | (refine wpList_store_same rfl 51 (.tmp 2) (.tmp 27) rfl P rfl k8 rfl chSz (ch_one _ _ _ _) ?_) | fail)
      refine bodyPost_ret (results_blk rfl _ P rfl k8 Tryd.underlying51 rfl chSz) rfl ?_
      exact TkP.yes hxx.out g8 t8
  rw [if_neg hk0] at hx
  simp only [Option.bind_some] at hx
  have f0 : ((ki : Int) == 0) = false := by simp; omega
  obtain ⟨M, hM⟩ : ∃ M, chB ⟨ks, n, ki, ByteArray.empty⟩ = M := ⟨_, rfl⟩
  have cc := change_any W5 ks ByteArray.empty n ki
  rw [hM] at cc hx
  go_wp2_with (first | rw [hW5] | fail)
  clear hM
  refine cc.mono ?_
  clear cc
  rintro _ W8 ⟨rfl, b8⟩
  have k8 := k5.below b8 k5.lt
  have g8 := grown_trans g5 (grown_of_below b8 (some T))
  have t8 := t5.below b8
  have c8 := k8.cell
  cases M
  · have hxx : x = none := by rw [← hx]; rfl
    replace hxx := Lib.hid hxx
    clear hx
    go_wp2_with fail
    refine (mn _).mono ?_
    rintro _ _ ⟨rfl, rfl⟩
    go_wp2
    exact ⟨rfl, TkP.no hxx.out g8⟩
  · have hxx : x = some (.agg #[.string ks, .int .u32 (n : Int), .int .u8 (ki : Nat), .string ByteArray.empty], l3) := by rw [← hx]; rfl
    replace hxx := Lib.hid hxx
    clear hx
    go_wp2_with fail
    refine (my _).mono ?_
    rintro _ _ ⟨rfl, rfl⟩
    go_wp2_with (first | (refine wpList_store_same rfl 51 (.tmp 2) (.tmp 27) rfl P rfl k8 rfl chSz (ch_one _ _ _ _) ?_) | fail)
    refine bodyPost_ret (results_blk rfl _ P rfl k8 Tryd.underlying51 rfl chSz) rfl ?_
    exact TkP.yes hxx.out g8 t8
theorem catch_idle (p q r : Addr) (w : World) :
    CallsD Tryd.prog 43 #[.pointer (some p), .pointer (some q), .pointer (some r)] .returning w fun e u' w' => e = .returned (.tuple #[]) ∧ u' = .returning ∧ w' = w := by
  refine callsD_of_wpS Tryd.func43 rfl fun c₀ cs hu => ?_
  apply wpS_seq
  apply wpS_region
  simp [wpOpsS, go_sem, recoverD, hu, Tryd.ntmps43, Exit.thenS]
  refine wpS_of_wp ?_
  go_wp2
  cases c₀
  simp_all [bodyPostS, results, Tryd.results43, Exit.thenS]
/-- A world that differs from one in three blocks alone. -/
theorem below_three {B : Nat} {a w : World} (h : Below B a w ∧ B ≤ w.heap.size) {p : Addr} (hp : B ≤ p.block) (u : Value) : Below B a (w.setCell p u) ∧ B ≤ (w.setCell p u).heap.size :=
  ⟨h.1.grown (only_store (World.grownBy.refl w _) (p := p) rfl u) h.2 (fun k hk => by cases hk; exact hp), by simpa [World.setCell] using h.2⟩
set_option maxRecDepth 100000 in
theorem catch_panic (P0 P1 P2 : Nat) (w : World) (x y a b c d f : Value) (h0 : Blk w P0 22 #[x]) (h1 : Blk w P1 26 #[a, b, c, d, f]) (h2 : Blk w P2 31 #[y]) (n01 : P0 ≠ P1) (n02 : P0 ≠ P2) (n12 : P1 ≠ P2) :
    CallsD Tryd.prog 43 #[.pointer (some ⟨P0, 0, none⟩), .pointer (some ⟨P1, 0, none⟩), .pointer (some ⟨P2, 0, none⟩)] (.panicking PF) w fun e u' w' => e = .returned (.tuple #[]) ∧ u' = .panicking [{ v := .iface 31 (.int .i64 4), recovered := true }] ∧
      Blk w' P0 22 #[.int .u64 0] ∧ Blk w' P1 26 #[.int .u8 0, .string ⟨#[]⟩, .string ⟨#[]⟩, .int .u64 0, .slice none 0 0] ∧ Blk w' P2 31 #[.int .i64 4] ∧ (∀ (B : Nat) (a : World), Below B a w → B ≤ w.heap.size → B ≤ P0 → B ≤ P1 → B ≤ P2 → Below B a w') := by
  have ta : ∀ (xT : TypeId) (W : World), (Instr.typeAssert (.iface 31 (.int .i64 4)) xT 31 true).run Tryd.prog W = .ok (.tuple #[.int .i64 4, .bool true]) W := fun xT W => by kernel_rfl
  refine callsD_of_wpS Tryd.func43 rfl fun c₀ cs hu => ?_
  apply wpS_seq
  apply wpS_region
  simp [wpOpsS, go_sem, recoverD, hu, PF, Tryd.ntmps43, Exit.thenS]
  refine wpS_of_wp ?_
  simp only [Array.replicate_succ, Array.replicate_zero, List.push_toArray, List.append_toArray, List.nil_append, List.cons_append, List.setIfInBounds_toArray, List.set_cons_zero, List.set_cons_succ]
  have c0 := h0.cell
  have c1 := h1.cell
  have c2 := h2.cell
  have z0 := h0.frozen
  have z1 := h1.frozen
  have z2 := h2.frozen
  go_wp2
  refine ⟨rfl, _, rfl, .tuple #[], results_none rfl _ _ _, rfl, rfl, ?_, ?_, ?_, ?_⟩
  · exact ((((((h0.store 0 _).far n01 _).far n01 _).far n01 _).far n01 _).far n01 _).far n02 _
  · exact ((((((h1.far n01.symm _).store 0 _).store 1 _).store 2 _).store 3 _).store 4 _).far n12 _
  · exact ((((((h2.far n02.symm _).far n12.symm _).far n12.symm _).far n12.symm _).far n12.symm _).far n12.symm _).store 0 _
  · intro B a h hw p0 p1 p2
    exact (below_three (below_three (below_three (below_three (below_three (below_three (below_three ⟨h, hw⟩ p0 _) p1 _) p1 _) p1 _) p1 _) p1 _) p2 _).1
end Go.Proofs.YtccbldlnfaiphaaDoor
