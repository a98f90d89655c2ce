/- Lists that wait, in memory: a heap of them. -/
import Derived.Test.YtnlmchbigpjamaaJnLaw
import Derived.Test.YtnlmchbigpjamaaKeep
import Derived.Test.YtnlmchbigpjamaaStill
import Derived.Test.YtnlmchbigpjamaaApp2
import Derived.Deep.RegionHeld3
set_option linter.unusedSimpArgs false
set_option linter.unusedVariables false
namespace Go.Proofs.Ytnlmchbigpjamaa
open Go Go.RowKit Herb Herb.Jn
/-- Facts that lie in a block of facts. -/
def FtAt (w : World) (A : Option Addr) (fs : List Ft) : Prop := ∃ (g o : Nat) (cs : Array Value) (fr : Nat × Nat), A = some ⟨g, o, none⟩ ∧ w.heap[g]? = some (.cells cs 44 fr) ∧ ∀ (j : Nat) (u : Value), (ftC fs)[j]? = some u → (cs : Array Value)[o + j]? = some u
structure HpAt (w : World) (q g c : Nat) (l : List En) : Prop where
  box : Blk w q 56 #[.slice (some ⟨g, 0, none⟩) l.length c]
  row : ∃ cs : Array Value, Blk w g 61 cs ∧ cs.size = c * 2 ∧ ∀ k e, l[k]? = some e → cs[k * 2]? = some (.slice e.A e.fs.length e.c) ∧ cs[k * 2 + 1]? = some (.int .i64 (e.pl : Int))
  cap : l.length ≤ c
  fts : ∀ e ∈ l, (e.fs = [] ∨ FtAt w e.A e.fs) ∧ e.fs.length ≤ e.c
section
variable {w w' : World} {A : Option Addr} {fs : List Ft} {q g c : Nat} {l : List En} {S : Nat → Prop}
theorem FtAt.keep (h : FtAt w A fs) (hk : KeepBut S w w') (hs : ∀ k cs fr, w.heap[k]? = some (.cells cs 44 fr) → ¬ S k) : FtAt w' A fs := by
  obtain ⟨g, o, cs, fr, rfl, hg, hc⟩ := h
  exact ⟨g, o, cs, fr, rfl, (hk.block g (Array.getElem?_eq_some_iff.1 hg).1 (hs g cs fr hg)).trans hg, hc⟩
theorem FtAt.below (h : FtAt w A fs) (hb : Below w.heap.size w w') : FtAt w' A fs := h.keep (S := fun _ => False) (KeepBut.of_below hb) (fun _ _ _ _ e => e)
theorem FtAt.fs_ (h : FtAt w A fs) : Fs w A fs := by
  obtain ⟨g, o, cs, fr, rfl, hg, hc⟩ := h
  exact ⟨ftC_length fs, fun _ => ⟨g, o, rfl, (Array.getElem?_eq_some_iff.1 hg).1, fun j u hu => (cell_of_row w g (o + j) cs _ fr hg).trans (hc j u hu)⟩⟩
theorem FtAt.tail {f : Ft} {t : List Ft} (h : FtAt w A (f :: t)) : FtAt w (A.map (·.add 6)) t := by
  obtain ⟨g, o, cs, fr, rfl, hg, hc⟩ := h
  refine ⟨g, o + 6, cs, fr, by simp [add_eq], hg, fun j u hu => ?_⟩
  have := hc (6 + j) u (by
    have e : ftC (f :: t) = f.cells ++ ftC t := rfl
    have l6 : f.cells.length = 6 := rfl
    rw [e, List.getElem?_append_right (by omega), l6, Nat.add_sub_cancel_left]
    exact hu)
  rwa [← Nat.add_assoc] at this
theorem HpAt.below (h : HpAt w q g c l) (hb : Below w.heap.size w w') : HpAt w' q g c l := by
  obtain ⟨cs, h1, h2, h3⟩ := h.row
  exact ⟨h.box.below hb h.box.lt, ⟨cs, h1.below hb h1.lt, h2, h3⟩, h.cap, fun e he => ⟨(h.fts e he).1.imp id (fun f => f.below hb), (h.fts e he).2⟩⟩
theorem HpAt.lt (h : HpAt w q g c l) : q < w.heap.size ∧ g < w.heap.size := by
  obtain ⟨cs, h1, _⟩ := h.row
  exact ⟨h.box.lt, h1.lt⟩
/-- What one element of the heap is, in cells. -/
theorem HpAt.cells (h : HpAt w q g c l) {k : Nat} (hk : k < l.length) : w.cell? ⟨g, k * 2, none⟩ = some (.slice (at_ l k).A (at_ l k).fs.length (at_ l k).c) ∧ w.cell? ⟨g, k * 2 + 1, none⟩ = some (.int .i64 ((at_ l k).pl : Int)) := by
  obtain ⟨cs, h1, _, h3⟩ := h.row
  rw [at_get hk, h1.cell, h1.cell]
  exact h3 k _ (List.getElem?_eq_getElem hk)
/-- The first fact of one. -/
theorem HpAt.head (h : HpAt w q g c l) {k : Nat} (hk : k < l.length) (hf : (at_ l k).fs ≠ []) : ∃ b o, (at_ l k).A = some ⟨b, o, none⟩ ∧ (w.cell? ⟨b, o, none⟩ = some (.string (at_ l k).hd.k) ∧ w.cell? ⟨b, o + 1, none⟩ = some (.int .u32 ((at_ l k).hd.va : Int)) ∧ w.cell? ⟨b, o + 2, none⟩ = some (.int .u64 ((at_ l k).hd.se : Int)) ∧
      w.cell? ⟨b, o + 3, none⟩ = some (.int .u64 ((at_ l k).hd.li : Int)) ∧ w.cell? ⟨b, o + 4, none⟩ = some (.int .u8 ((at_ l k).hd.ki : Int)) ∧ w.cell? ⟨b, o + 5, none⟩ = some (.string (at_ l k).hd.v)) := by
  have hm : at_ l k ∈ l := by rw [at_get hk]; exact List.getElem_mem hk
  rcases (h.fts _ hm).1 with e | e
  · exact absurd e hf
  · obtain ⟨f, t, hft⟩ := List.exists_cons_of_ne_nil hf
    have hh : (at_ l k).hd = f := by unfold En.hd; rw [hft]; rfl
    obtain ⟨b, o, hA, _, hc⟩ := e.fs_.at_ (i := 0) (by rw [hft]; simp)
    have h0 := hc 0 (by rw [hft]; simp)
    simp only [hft, Nat.zero_mul, Nat.add_zero, List.getElem_cons_zero] at h0
    rw [hh]
    exact ⟨b, o, hA, h0⟩
end
set_option maxRecDepth 100000 in
set_option maxHeartbeats 1600000 in
theorem less_any (w : World) (q g c : Nat) (l : List En) (n : Nat) (hn : l.length = n) (hH : HpAt w q g c l) (i k : Nat) (hi : i < n) (hk : k < n) (hn63 : n ≤ 1000000) (fi : (at_ l i).fs ≠ []) (fk : (at_ l k).fs ≠ []) :
    Calls Try.prog 60 #[.slice (some ⟨g, 0, none⟩) n c, .int .i64 (i : Int), .int .i64 (k : Int)] w fun e w' => e = .returned (.bool (decide (cmpE (at_ l i) (at_ l k) < 0))) ∧ Below w.heap.size w w' := by
  obtain ⟨a, ha⟩ : ∃ a, at_ l i = a := ⟨_, rfl⟩
  obtain ⟨b, hb⟩ : ∃ b, at_ l k = b := ⟨_, rfl⟩
  have hci := hH.cells (k := i) (by omega)
  have hck := hH.cells (k := k) (by omega)
  obtain ⟨bi, oi, hAi, hfi⟩ := hH.head (k := i) (by omega) fi
  obtain ⟨bk, ok, hAk, hfk⟩ := hH.head (k := k) (by omega) fk
  have S0 : ∀ W, Below w.heap.size w W → _ := fun W hW => (hH.below hW)
  have mi := fun W hW => (S0 W hW).cells (k := i) (by omega)
  have mk := fun W hW => (S0 W hW).cells (k := k) (by omega)
  have ei := fun W hW => (S0 W hW).head (k := i) (by omega) fi
  have ek := fun W hW => (S0 W hW).head (k := k) (by omega) fk
  rw [ha] at hci hAi hfi fi ⊢
  rw [hb] at hck hAk hfk fk ⊢
  simp only [ha] at mi ei
  simp only [hb] at mk ek
  have li : 0 < a.fs.length := List.length_pos_iff.2 fi
  have lk : 0 < b.fs.length := List.length_pos_iff.2 fk
  have hz : orL [cmpFt a.hd b.hd, cmpI (a.pl : Int) (b.pl : Int)] = cmpE a b := rfl
  obtain ⟨Ai, fsi, ci, pi⟩ := a
  obtain ⟨Ak, fsk, ck, pk⟩ := b
  simp only at hAi hAk hci hck mi mk ei ek li lk hz
  subst hAi hAk
  obtain ⟨f, hf⟩ : ∃ f, En.hd ⟨some ⟨bi, oi, none⟩, fsi, ci, pi⟩ = f := ⟨_, rfl⟩
  obtain ⟨h, hh⟩ : ∃ h, En.hd ⟨some ⟨bk, ok, none⟩, fsk, ck, pk⟩ = h := ⟨_, rfl⟩
  rw [hf] at hfi
  rw [hh] at hfk
  rw [hf, hh] at hz
  simp only [hf] at ei
  simp only [hh] at ek
  obtain ⟨Z, hZ⟩ : ∃ Z, cmpE ⟨some ⟨bi, oi, none⟩, fsi, ci, pi⟩ ⟨some ⟨bk, ok, none⟩, fsk, ck, pk⟩ = Z := ⟨_, rfl⟩
  rw [hZ] at hz ⊢
  clear hf hh hZ ha hb fi fk
  obtain ⟨mi1, hmi⟩ : ∃ m, fsi.length = m := ⟨_, rfl⟩
  obtain ⟨mk1, hmk⟩ : ∃ m, fsk.length = m := ⟨_, rfl⟩
  rw [hmi] at hci li
  rw [hmk] at hck lk
  simp only [hmi] at mi
  simp only [hmk] at mk
  clear hmi hmk
  obtain ⟨xk, xva, xse, xli, xki, xv⟩ := f
  obtain ⟨yk, yva, yse, yli, yki, yv⟩ := h
  simp only at hfi hfk ei ek
  have mkS : ∀ W, Below w.heap.size w W → (fun W => (W.cell? ⟨g, i * 2, none⟩ = some (.slice (some ⟨bi, oi, none⟩) mi1 ci) ∧ W.cell? ⟨g, i * 2 + 1, none⟩ = some (.int .i64 (pi : Int))) ∧ (W.cell? ⟨g, k * 2, none⟩ = some (.slice (some ⟨bk, ok, none⟩) mk1 ck) ∧ W.cell? ⟨g, k * 2 + 1, none⟩ = some (.int .i64 (pk : Int))) ∧
      (W.cell? ⟨bi, oi, none⟩ = some (.string xk) ∧ W.cell? ⟨bi, oi + 1, none⟩ = some (.int .u32 (xva : Int)) ∧ W.cell? ⟨bi, oi + 2, none⟩ = some (.int .u64 (xse : Int)) ∧ W.cell? ⟨bi, oi + 3, none⟩ = some (.int .u64 (xli : Int)) ∧ W.cell? ⟨bi, oi + 4, none⟩ = some (.int .u8 (xki : Int)) ∧ W.cell? ⟨bi, oi + 5, none⟩ = some (.string xv)) ∧
      (W.cell? ⟨bk, ok, none⟩ = some (.string yk) ∧ W.cell? ⟨bk, ok + 1, none⟩ = some (.int .u32 (yva : Int)) ∧ W.cell? ⟨bk, ok + 2, none⟩ = some (.int .u64 (yse : Int)) ∧ W.cell? ⟨bk, ok + 3, none⟩ = some (.int .u64 (yli : Int)) ∧ W.cell? ⟨bk, ok + 4, none⟩ = some (.int .u8 (yki : Int)) ∧ W.cell? ⟨bk, ok + 5, none⟩ = some (.string yv)) ∧ Below w.heap.size w W) W := fun W hW => by
    refine ⟨mi W hW, mk W hW, ?_, ?_, hW⟩
    · obtain ⟨_, _, he, h⟩ := ei W hW
      cases he
      exact h
    · obtain ⟨_, _, he, h⟩ := ek W hW
      cases he
      exact h
  have s1 := mkS w.drew (Below.refl _ w).drew
  have s0 := mkS w (Below.refl _ w)
  have pc := fun W => cmp_any W xk yk xv yv (xva : Int) (yva : Int) (xse : Int) (yse : Int) (xli : Int) (yli : Int) (xki : Int) (yki : Int)
  have e1 : cmpF xk yk (xva : Int) (yva : Int) (xse : Int) (yse : Int) (xki : Int) (yki : Int) = cmpFt ⟨xk, xva, xse, xli, xki, xv⟩ ⟨yk, yva, yse, yli, yki, yv⟩ := rfl
  simp only [e1] at pc
  obtain ⟨z1, hz1⟩ : ∃ z, cmpFt ⟨xk, xva, xse, xli, xki, xv⟩ ⟨yk, yva, yse, yli, yki, yv⟩ = z := ⟨_, rfl⟩
  rw [hz1] at hz
  simp only [hz1] at pc
  obtain ⟨z2, hz2⟩ : ∃ z, cmpI (pi : Int) (pk : Int) = z := ⟨_, rfl⟩
  have pd := fun W => compare_int W (pi : Int) (pk : Int)
  rw [hz2] at hz
  simp only [hz2] at pd
  have po := fun (W W2 : World) (hW : W.alloc (.cells #[.int .i64 z1, .int .i64 z2] 3) = W2) => or_any W2 (some ⟨W.heap.size, 0, none⟩) 2 2 [z1, z2] rfl (by omega) (by rw [← hW]; exact (Blk.new W 3 _).rd rfl (fun j u hu => by simpa [ivs] using hu))
  simp only [hz] at po
  replace mkS := Lib.hid mkS
  replace pc := Lib.hid pc
  replace pd := Lib.hid pd
  replace po := Lib.hid po
  clear mi mk ei ek S0 hH hci hck hfi hfk hz hz1 hz2 e1
  have hii : (0 : Int) ≤ (i : Int) ∧ (i : Int) < (n : Int) := by omega
  have hkk : (0 : Int) ≤ (k : Int) ∧ (k : Int) < (n : Int) := by omega
  have hli : (0 : Int) < (mi1 : Int) := by omega
  have hlk : (0 : Int) < (mk1 : Int) := by omega
  go_enter Try.func60, Try.ntmps60
  go_wp2
  go_region_held3 (fun W => (W.cell? ⟨g, i * 2, none⟩ = some (.slice (some ⟨bi, oi, none⟩) mi1 ci) ∧ W.cell? ⟨g, i * 2 + 1, none⟩ = some (.int .i64 (pi : Int))) ∧ (W.cell? ⟨g, k * 2, none⟩ = some (.slice (some ⟨bk, ok, none⟩) mk1 ck) ∧ W.cell? ⟨g, k * 2 + 1, none⟩ = some (.int .i64 (pk : Int))) ∧
      (W.cell? ⟨bi, oi, none⟩ = some (.string xk) ∧ W.cell? ⟨bi, oi + 1, none⟩ = some (.int .u32 (xva : Int)) ∧ W.cell? ⟨bi, oi + 2, none⟩ = some (.int .u64 (xse : Int)) ∧ W.cell? ⟨bi, oi + 3, none⟩ = some (.int .u64 (xli : Int)) ∧ W.cell? ⟨bi, oi + 4, none⟩ = some (.int .u8 (xki : Int)) ∧ W.cell? ⟨bi, oi + 5, none⟩ = some (.string xv)) ∧
      (W.cell? ⟨bk, ok, none⟩ = some (.string yk) ∧ W.cell? ⟨bk, ok + 1, none⟩ = some (.int .u32 (yva : Int)) ∧ W.cell? ⟨bk, ok + 2, none⟩ = some (.int .u64 (yse : Int)) ∧ W.cell? ⟨bk, ok + 3, none⟩ = some (.int .u64 (yli : Int)) ∧ W.cell? ⟨bk, ok + 4, none⟩ = some (.int .u8 (yki : Int)) ∧ W.cell? ⟨bk, ok + 5, none⟩ = some (.string yv)) ∧ Below w.heap.size w W)
    (first | with_reducible exact v6 | with_reducible exact v5 | with_reducible exact v4 | with_reducible exact s1 | with_reducible exact s0)
    (first
    | (go_at_call 17; (with_reducible refine (pc.out _).mono ?_); rintro _ q4 ⟨rfl, b4⟩; have v4 := mkS.out _ (Below.trans (And.right (And.right (And.right (And.right (by with_reducible assumption))))) (b4.mono (Below.size (And.right (And.right (And.right (And.right (by with_reducible assumption)))))))); have v5 := mkS.out (q4.alloc (.cells #[.int .i64 z1, .int .i64 z2] 3)) (v4.2.2.2.2.alloc v4.2.2.2.2.size _))
    | (go_at_call 27; (with_reducible refine (po.out _ _ rfl).mono ?_); rintro _ _ ⟨rfl, rfl⟩)
    | (go_at_call 62; (with_reducible refine (pd.out _).mono ?_); rintro _ _ ⟨rfl, rfl⟩)
    | fail)
  all_goals
    go_wp2
    go_ret
    exact ⟨rfl, v5.2.2.2.2⟩
end Go.Proofs.Ytnlmchbigpjamaa
