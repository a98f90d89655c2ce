/- Walks of the taker of bytes, which gives up by a panic: must, number, text, byte. -/
import Derived.Test.YtccbldlnfaiphaaDoorOpB
import Derived.Test.YtccbldlnfaiphaaDoorOpLaw
import Derived.Test.YtccbldlnfaiphaaDoorGetText
import Derived.Test.YtccbldlnfaiphaaDoorCut
import Derived.WalkLawsBesides
set_option linter.unusedSimpArgs false
set_option linter.unusedVariables false
namespace Herb.Cm
open Go Go.RowKit Herb
theorem only_store {a w : World} {g : Nat} (h : a.grownBy w (some g)) {p : Addr} (hp : p.block = g) (u : Value) : a.grownBy (w.setCell p u) (some g) :=
  ⟨h.os, h.tape, h.output, by simpa [World.setCell] using h.size, fun i hi hne => (Below.heap_setCell w p u i (by
    rintro rfl
    exact hne (by rw [hp]))).trans (h.block i hi hne)⟩
theorem grown_trans {a b c : World} {g : Option Nat} (h : a.grownBy b g) (k : b.grownBy c g) : a.grownBy c g :=
  ⟨k.os.trans h.os, k.tape.trans h.tape, k.output.trans h.output, Nat.le_trans h.size k.size, fun i hi hne => (k.block i (Nat.lt_of_lt_of_le hi h.size) hne).trans (h.block i hi hne)⟩
theorem grown_of_below {a b : World} (h : Below a.heap.size a b) (g : Option Nat) : a.grownBy b g := ⟨h.os, h.tape, h.output, h.size, fun k hk _ => h.block k hk⟩
theorem rdN_dec (l : List UInt8) : (∃ m t, dec l = (m, t, 0) ∧ rdN l = some (m, l.drop t) ∧ t ≤ l.length ∧ m < 18446744073709551616) ∨ (∃ e, e ≠ 0 ∧ dec l = (0, 0, e) ∧ rdN l = none) := by
  unfold rdN
  rcases dec_cases l with ⟨m, h, hm, rest, hl⟩ | h | h
  · refine .inl ⟨m, _, h, by rw [h]; rfl, ?_, hm⟩
    conv => rhs; rw [hl]
    rw [List.length_append]; omega
  · exact .inr ⟨4, by omega, h, by rw [h]; rfl⟩
  · exact .inr ⟨5, by omega, h, by rw [h]; rfl⟩
theorem rdT_dec (l : List UInt8) : (∃ s t, decT l = (s, t, 0) ∧ rdT l = some (⟨s.toArray⟩, l.drop t) ∧ t ≤ l.length) ∨ (∃ e, e ≠ 0 ∧ decT l = ([], 0, e) ∧ rdT l = none) := by
  unfold rdT
  rcases decT_cases l with ⟨s, h, hs, _, rest, hl⟩ | ⟨h, _⟩ | ⟨h, _⟩
  · refine .inl ⟨s, _, h, by rw [h]; rfl, ?_⟩
    conv => rhs; rw [hl]
    rw [List.length_append, List.length_append]; omega
  · exact .inr ⟨4, by omega, h, by rw [h]; rfl⟩
  · exact .inr ⟨5, by omega, h, by rw [h]; rfl⟩
end Herb.Cm
namespace Go.Proofs.YtccbldlnfaiphaaDoor
open Go Go.RowKit Herb Herb.Cm
/-- The panic that gives up. -/
def PF : List PanicEntry := [{ v := .iface 31 (.int .i64 4), recovered := false }]
/-- A taker: its bytes are those of w. -/
def Tk (w W : World) (T : Nat) (l : List UInt8) : Prop := ∃ A n c, Blk W T 75 #[.slice A n c] ∧ Bs w A l ∧ l.length = n ∧ n ≤ c ∧ w.heap.size ≤ T ∧ Below w.heap.size w W
/-- What a taker's method answers. -/
def TkP (w W : World) (T : Nat) (x : Option (Value × List UInt8)) (e : Ending) (W' : World) : Prop := W.grownBy W' (some T) ∧ (match x with | none => e = .panicked PF | some (v, r) => e = .returned v ∧ Tk w W' T r)
theorem TkP.no {w W W' : World} {T : Nat} {x : Option (Value × List UInt8)} (h : x = none) (hg : W.grownBy W' (some T)) : TkP w W T x (.panicked PF) W' := by subst h; exact ⟨hg, rfl⟩
theorem TkP.yes {w W W' : World} {T : Nat} {x : Option (Value × List UInt8)} {v : Value} {r : List UInt8} (h : x = some (v, r)) (hg : W.grownBy W' (some T)) (ht : Tk w W' T r) : TkP w W T x (.returned v) W' := by subst h; exact ⟨hg, rfl, ht⟩
/-- Behind a method's store into the taker. -/
theorem Tk.set {w W W1 : World} {T : Nat} {A : Option Addr} {n c t : Nat} {l : List UInt8} (hk : Blk W T 75 #[.slice A n c]) (hb : Bs w A l) (hl : l.length = n) (hnc : n ≤ c) (hT : w.heap.size ≤ T) (hB : Below w.heap.size w W) (h1 : W.grownBy W1 none) (ht : t ≤ n) :
    W.grownBy (W1.setCell ⟨T, 0, none⟩ (.slice (cutA A c t) (n - t) (c - t))) (some T) ∧ Tk w (W1.setCell ⟨T, 0, none⟩ (.slice (cutA A c t) (n - t) (c - t))) T (l.drop t) := by
  have hk1 : Blk W1 T 75 #[.slice A n c] := hk.grown h1 (by simp)
  have hg : W.grownBy W1 (some T) := ⟨h1.os, h1.tape, h1.output, h1.size, fun k hk _ => h1.block k hk (by simp)⟩
  have hg2 := only_store hg (p := ⟨T, 0, none⟩) rfl (.slice (cutA A c t) (n - t) (c - t))
  refine ⟨hg2, _, _, _, hk1.store 0 _, hb.cutA_from (by omega) (by omega), by rw [List.length_drop, hl], by omega, hT, ?_⟩
  exact hB.grown hg2 hB.size (fun k h => by cases h; exact hT)
theorem must_yes (w : World) : Calls Tryd.prog 44 #[.bool true] w fun e w' => e = .returned (.tuple #[]) ∧ w = w' := by
  go_enter Tryd.func44, Tryd.ntmps44
  go_wp2
  go_end0
  exact ⟨rfl, rfl⟩
theorem must_no (w : World) : Calls Tryd.prog 44 #[.bool false] w fun e w' => e = .panicked PF ∧ w = w' := by
  go_enter Tryd.func44, Tryd.ntmps44
  go_wp2
  exact ⟨rfl, rfl, rfl⟩

set_option maxHeartbeats 1600000 in
theorem number_any (w W : World) (T : Nat) (l : List UInt8) (h : Tk w W T l) (hl : l.length ≤ 1000000) :
    Calls Tryd.prog 45 #[.pointer (some ⟨T, 0, none⟩)] W fun e W' => TkP w W T ((rdN l).map fun p => (.int .u64 (p.1 : Int), p.2)) e W' := by
  obtain ⟨x, hx⟩ : ∃ x, (rdN l).map (fun p => ((.int .u64 (p.1 : Int) : Value), p.2)) = x := ⟨_, rfl⟩
  rw [hx]
  obtain ⟨A, n, c, hk, hb, hln, hnc, hT, hB⟩ := h
  have cg := get_any W A n c l hln (by omega) (hb.below hB)
  have ck := hk.cell 0
  have cz := hk.frozen 0
  simp only [List.getElem?_toArray, List.getElem?_cons_zero] at ck
  rcases rdN_dec l with ⟨m, t, hd, hr, ht, hm⟩ | ⟨e, he, hd, hr⟩
  · have hxx : x = some (.int .u64 (m : Int), l.drop t) := by rw [← hx, hr]; rfl
    rw [hd] at cg
    have kc := run_cut_from (P := Tryd.prog) Tryd.underlying30 (by kernel_rfl) A n c t (by omega)
    have hs := Tk.set hk hb hln hnc hT hB (World.grownBy.refl W none) (by omega : t ≤ n)
    replace hs := Lib.hid hs
    replace hxx := Lib.hid hxx
    clear hx hr hd
    replace hln := Lib.hid hln
    have my := fun W => must_yes W
    go_enter Tryd.func45, Tryd.ntmps45
    go_wp2_with fail
    refine cg.mono ?_
    clear cg
    rintro _ _ ⟨rfl, rfl⟩
    go_wp2_with fail
    refine (my _).mono ?_
    rintro _ _ ⟨rfl, rfl⟩
    go_wp2
    go_ret
    exact TkP.yes hxx.out hs.out.1 hs.out.2
  · have hxx : x = none := by rw [← hx, hr]; rfl
    rw [hd] at cg
    have hee : ((e : Int) == 0) = false := by simp; omega
    replace hxx := Lib.hid hxx
    clear hx hr hd
    replace hln := Lib.hid hln
    have mn := fun W => must_no W
    go_enter Tryd.func45, Tryd.ntmps45
    go_wp2_with fail
    refine cg.mono ?_
    clear cg
    rintro _ _ ⟨rfl, rfl⟩
    go_wp2_with fail
    refine (mn _).mono ?_
    rintro _ _ ⟨rfl, rfl⟩
    go_wp2
    exact ⟨rfl, TkP.no hxx.out (World.grownBy.refl W _)⟩

set_option maxHeartbeats 1600000 in
theorem textT_any (w W : World) (T : Nat) (l : List UInt8) (h : Tk w W T l) (hl : l.length ≤ 1000000) :
    Calls Tryd.prog 47 #[.pointer (some ⟨T, 0, none⟩)] W fun e W' => TkP w W T ((rdT l).map fun p => (.string p.1, p.2)) e W' := by
  obtain ⟨x, hx⟩ : ∃ x, (rdT l).map (fun p => ((.string p.1 : Value), p.2)) = x := ⟨_, rfl⟩
  rw [hx]
  obtain ⟨A, n, c, hk, hb, hln, hnc, hT, hB⟩ := h
  have cg := getText_any W A n c l hln hnc (by omega) (hb.below hB)
  have ck := hk.cell 0
  have cz := hk.frozen 0
  simp only [List.getElem?_toArray, List.getElem?_cons_zero] at ck
  rcases rdT_dec l with ⟨m, t, hd, hr, ht⟩ | ⟨e, he, hd, hr⟩
  · have hxx : x = some (.string ⟨m.toArray⟩, l.drop t) := by rw [← hx, hr]; rfl
    rw [hd] at cg
    have kc := run_cut_from (P := Tryd.prog) Tryd.underlying30 (by kernel_rfl) A n c t (by omega)
    have hs := Tk.set hk hb hln hnc hT hB (World.grownBy.refl W none) (by omega : t ≤ n)
    obtain ⟨s, hs2⟩ : ∃ s : ByteArray, (⟨m.toArray⟩ : ByteArray) = s := ⟨_, rfl⟩
    rw [hs2] at hxx
    simp only [hs2] at cg
    replace hs := Lib.hid hs
    replace hxx := Lib.hid hxx
    clear hx hr hd hs2
    replace hln := Lib.hid hln
    have my := fun W => must_yes W
    go_enter Tryd.func47, Tryd.ntmps47
    go_wp2_with fail
    refine cg.mono ?_
    clear cg
    rintro _ _ ⟨rfl, rfl⟩
    go_wp2_with fail
    refine (my _).mono ?_
    rintro _ _ ⟨rfl, rfl⟩
    go_wp2
    go_ret
    exact TkP.yes hxx.out hs.out.1 hs.out.2
  · have hxx : x = none := by rw [← hx, hr]; rfl
    rw [hd] at cg
    have hee : ((e : Int) == 0) = false := by simp; omega
    replace hxx := Lib.hid hxx
    clear hx hr hd
    replace hln := Lib.hid hln
    have mn := fun W => must_no W
    go_enter Tryd.func47, Tryd.ntmps47
    go_wp2_with fail
    refine cg.mono ?_
    clear cg
    rintro _ _ ⟨rfl, rfl⟩
    go_wp2_with fail
    refine (mn _).mono ?_
    rintro _ _ ⟨rfl, rfl⟩
    go_wp2
    exact ⟨rfl, TkP.no hxx.out (World.grownBy.refl W _)⟩

set_option maxHeartbeats 1600000 in
theorem byteT_any (w W : World) (T : Nat) (l : List UInt8) (h : Tk w W T l) (hl : l.length ≤ 1000000) :
    Calls Tryd.prog 46 #[.pointer (some ⟨T, 0, none⟩)] W fun e W' => TkP w W T ((rdB l).map fun p => (.int .u8 (p.1 : Int), p.2)) e W' := by
  obtain ⟨x, hx⟩ : ∃ x, (rdB l).map (fun p => ((.int .u8 (p.1 : Int) : Value), p.2)) = x := ⟨_, rfl⟩
  rw [hx]
  obtain ⟨A, n, c, hk, hb, hln, hnc, hT, hB⟩ := h
  have ck := hk.cell 0
  have cz := hk.frozen 0
  simp only [List.getElem?_toArray, List.getElem?_cons_zero] at ck
  cases l with
  | nil =>
    have hxx : x = none := by rw [← hx]; rfl
    have hn0 : n = 0 := hln.symm
    subst hn0
    replace hxx := Lib.hid hxx
    clear hx hln
    have mn := fun W => must_no W
    go_enter Tryd.func46, Tryd.ntmps46
    go_wp2_with fail
    refine (mn _).mono ?_
    rintro _ _ ⟨rfl, rfl⟩
    go_wp2
    exact ⟨rfl, TkP.no hxx.out (World.grownBy.refl W _)⟩
  | cons y r =>
    have hxx : x = some (.int .u8 (y.toNat : Int), r) := by rw [← hx]; rfl
    have hn1 : 1 ≤ n := by rw [← hln]; simp
    obtain ⟨b, off, rfl, hblt, hc⟩ := hb.at_ (k := 0) (by simp)
    have h0 := hc 0 (by simp)
    simp only [List.getElem_cons_zero, Nat.add_zero] at h0
    have hy : W.cell? ⟨b, off, none⟩ = some (.int .u8 (y.toNat : Int)) := (hB.cell (p := ⟨b, off, none⟩) hblt).trans h0
    have kc : ∀ W, (Instr.slice 30 (.slice (some ⟨b, off, none⟩) n c) (some (.int .i64 1)) none none).run Tryd.prog W = .ok (.slice (cutA (some ⟨b, off, none⟩) c 1) (n - 1) (c - 1)) W := run_cut_from (P := Tryd.prog) Tryd.underlying30 (by kernel_rfl) (some ⟨b, off, none⟩) n c 1 hn1
    have hs := Tk.set hk hb hln hnc hT hB (World.grownBy.refl W none) hn1
    have d1 : decide ((0 : Int) < (n : Int)) = true := decide_eq_true (by omega)
    have d2 : decide (0 < n) = true := decide_eq_true (by omega)
    replace hs := Lib.hid hs
    replace hxx := Lib.hid hxx
    clear hx hc h0
    replace hln := Lib.hid hln
    have my := fun W => must_yes W
    go_enter Tryd.func46, Tryd.ntmps46
    go_wp2_with fail
    refine (my _).mono ?_
    rintro _ _ ⟨rfl, rfl⟩
    go_wp2
    go_ret
    exact TkP.yes hxx.out hs.out.1 hs.out.2
end Go.Proofs.YtccbldlnfaiphaaDoor
