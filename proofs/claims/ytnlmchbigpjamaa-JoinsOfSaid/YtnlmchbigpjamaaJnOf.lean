/- The walks of slices.Clone and joins.Of, and of what joins.Of tells. -/
import Derived.Test.YtnlmchbigpjamaaJnRep
import Derived.Test.YtnlmchbigpjamaaJnColl
import Derived.Test.YtnlmchbigpjamaaFact
set_option linter.unusedSimpArgs false
set_option linter.unusedVariables false
namespace Go.Proofs.Ytnlmchbigpjamaa
open Go Go.RowKit Go.Shelf Herb Herb.Jn
attribute [local go_sem] Oper.semAt_some
/-- A list that is handed over: where it lies. -/
structure Sl where
  A : Option Addr
  fs : List Ft
  c : Nat
def sqV (C : Nat) : Option Sl → Value
  | none => .nilFunc
  | some x => .func (.func 10) #[.agg #[.slice x.A x.fs.length x.c, .pointer (some ⟨C, 0, none⟩)]] #[]
def sqF : Option Sl → List Ft
  | none => []
  | some x => x.fs
/-- The lists' facts lie in memory, none in the counter's block. -/
def SqFs (w : World) (C : Nat) (qs : List (Option Sl)) : Prop := ∀ x, some x ∈ qs → Fs w x.A x.fs ∧ (∀ a, x.A = some a → 0 < x.fs.length → a.block ≠ C) ∧ x.fs.length ≤ 1000000
theorem SqFs.keep {w w' : World} {C : Nat} {qs : List (Option Sl)} (h : SqFs w C qs) (hk : KeepBut (fun k => k = C ∨ w.heap.size ≤ k) w w') : SqFs w' C qs := fun x hx => by
  obtain ⟨h1, h2, h3⟩ := h x hx
  unfold Fs at h1 ⊢
  exact ⟨Rd.but_lt h1 h2 hk, h2, h3⟩
theorem fnInfo : (Try.prog.info? 32).map (fun i => (i.zero, i.size, i.bytes)) = some (some .nilFunc, 1, 8) := by kernel_rfl
theorem sq_one (C : Nat) (qs : List (Option Sl)) : ∀ u ∈ qs.map (sqV C), u.oneCell' = true := by
  intro u hu
  obtain ⟨x, _, rfl⟩ := List.mem_map.1 hu
  cases x <;> rfl
set_option maxHeartbeats 800000 in
theorem clone_sq (w : World) (A : Option Addr) (N c C : Nat) (qs : List (Option Sl)) (hN : qs.length = N) (hN2 : N ≤ 1000000) (hr : Rd w 1 A N (qs.map (sqV C))) :
    Calls Try.prog 20 #[.slice A N c] w fun e w' => ∃ A' c', e = .returned (.slice A' N c') ∧ w'.ownsRow w.heap.size 32 1 (.slice A' N c') N (qs.map (sqV C)) ∧ Below w.heap.size w w' := by
  have q : ∀ (w : World) (a : Option Addr) (n c n' c' : Nat), (binOp .eql 25 (.slice a n c) (.slice none n' c')).run Try.prog w = .ok (.bool a.isNone) w := fun w a n c n' c' => Lib.run_eql_slice_nil w _ _ a n c n' c' Try.underlying25
  obtain ⟨vs, hvs⟩ : ∃ vs, qs.map (sqV C) = vs := ⟨_, rfl⟩
  have hone := sq_one C qs
  rw [hvs] at hr hone ⊢
  replace hvs := Lib.hid hvs
  replace hone := Lib.hid hone
  replace hN := Lib.hid hN
  go_enter Try.func20, Try.ntmps20
  rcases A with _ | a
  · have hN0 : N = 0 := by
      rcases Nat.eq_zero_or_pos N with h | h
      · exact h
      · obtain ⟨_, _, h2, _⟩ := hr.2 h
        cases h2
    subst hN0
    have hv0 : vs = [] := List.eq_nil_of_length_eq_zero (by simpa using hr.1)
    subst hv0
    go_wp2
    go_ret
    exact ⟨_, _, rfl, World.ownsRow_nil _ _ _ _, Below.refl _ _⟩
  · go_wp2_with (at_builtin; refine wpList_app _ rfl _ _ rfl Try.underlying25 fnInfo rfl (by omega) (World.ownsRow_made w #[] 0 (Nat.le_refl _) (Nat.zero_le _) rfl) rfl _ N c (hr.alloc _) rfl hone.out (by unfold maxLen; omega) (by omega) (by simp) ?_; intro v1 w1 hown1 hgrow1 hlie1)
    rw [Nat.zero_add, List.nil_append] at hown1
    obtain ⟨A1, c1, rfl⟩ := own_slice hown1
    go_wp2
    go_ret
    exact ⟨_, _, rfl, hown1, ((Below.refl _ w).alloc (Nat.le_refl _) _).grown hgrow1 (by simp) (fun j hj => by simp [Value.ownBlock] at hj; omega)⟩
theorem of_any (w : World) (A : Option Addr) (N c C : Nat) (qs : List (Option Sl)) (hN : qs.length = N) (hN2 : N ≤ 1000000) (hr : Rd w 1 A N (qs.map (sqV C))) :
    Calls Try.prog 11 #[.slice A N c] w fun e w' => e = .returned (.func (.func 21) #[] #[.pointer (some ⟨w.heap.size, 0, none⟩)]) ∧ ∃ A' c', Blk w' w.heap.size 25 #[.slice A' N c'] ∧ w'.ownsRow (w.heap.size + 1) 32 1 (.slice A' N c') N (qs.map (sqV C)) ∧ Below w.heap.size w w' := by
  obtain ⟨w1, hw1⟩ : ∃ w1, w.alloc (.cells #[.slice A N c] 25) = w1 := ⟨_, rfl⟩
  have k1 : Blk w1 w.heap.size 25 #[.slice A N c] := by rw [← hw1]; exact Blk.new w _ _
  have b1 : Below w.heap.size w w1 := by rw [← hw1]; exact (Below.refl _ _).alloc (Nat.le_refl _) _
  have hs1 : w1.heap.size = w.heap.size + 1 := by rw [← hw1]; simp
  have pc := clone_sq w1 A N c C qs hN hN2 (hr.below b1)
  obtain ⟨vs, hvs⟩ : ∃ vs, qs.map (sqV C) = vs := ⟨_, rfl⟩
  rw [hvs] at pc ⊢
  rw [hs1] at pc
  replace hvs := Lib.hid hvs
  replace hN := Lib.hid hN
  replace hw1 := Lib.hid hw1
  have c1 := k1.cell
  clear hr
  replace hs1 := Lib.hid hs1
  go_enter Try.func11, Try.ntmps11
  go_wp2_with (first | rw [hw1.out] | fail)
  refine pc.mono ?_
  clear pc
  rintro _ w2 ⟨A2, c2, rfl, h2, b2⟩
  have k2 : Blk w2 w.heap.size 25 #[.slice A N c] := k1.below b2 (by omega)
  have cc2 := k2.cell
  have ff2 := k2.frozen
  have hne := own_neJ h2 k2 (by decide)
  have k3 := k2.store 0 (.slice A2 N c2)
  have h3 := h2.kept (w' := w2.setCell ⟨w.heap.size, 0, none⟩ (.slice A2 N c2)) (row := some w.heap.size) ⟨rfl, rfl, rfl, by simp, fun k _ hk => heap_setCell_other w2 ⟨w.heap.size, 0, none⟩ k (.slice A2 N c2) (fun e => hk (by rw [e]))⟩ (.inr (fun e => hne e.symm))
  have b3 : Below w.heap.size w (w2.setCell ⟨w.heap.size, 0, none⟩ (.slice A2 N c2)) := (b1.trans (b2.mono (by omega))).setCell (p := ⟨w.heap.size, 0, none⟩) (Nat.le_refl _) _
  replace k3 := Lib.hid k3
  replace h3 := Lib.hid h3
  go_wp2
  go_ret
  exact ⟨rfl, A2, c2, k3.out, h3.out, b3⟩
/-- When two facts are the same. -/
theorem fact_eqv (W : World) (f g : Ft) : (Op.equalIn 10000 44 f.val g.val).run Try.prog W = .ok (decide (f = g)) W := by
  by_cases h : f = g
  · subst h
    rw [decide_eq_true rfl]
    exact fact_refl W f.k f.v f.va f.se f.li f.ki
  · rw [decide_eq_false h]
    have hu := Try.underlying44
    obtain ⟨k, va, se, li, ki, v⟩ := f
    obtain ⟨k', va', se', li', ki', v'⟩ := g
    unfold Ft.val
    rw [run_equalIn_struct W 9999 44 _ _ (by unfold Program.fieldsOf; rw [hu]) (by kernel_rfl)]
    unfold Program.fieldsOf
    rw [hu]
    simp only []
    have u9 := Try.underlying9
    have u25 := Try.underlying40
    have u26 := Try.underlying41
    have u27 := Try.underlying42
    have c9 : Try.prog.cellsOf 9 = 1 := by kernel_rfl
    have c25 : Try.prog.cellsOf 40 = 1 := by kernel_rfl
    have c26 : Try.prog.cellsOf 41 = 1 := by kernel_rfl
    have c27 : Try.prog.cellsOf 42 = 1 := by kernel_rfl
    go_simp
    intro h1 h2 h3 h4 h5 h6
    exact h (by rw [Ft.mk.injEq]; exact ⟨toList_inj h1, by omega, by omega, by omega, by omega, toList_inj h6⟩)
end Go.Proofs.Ytnlmchbigpjamaa
