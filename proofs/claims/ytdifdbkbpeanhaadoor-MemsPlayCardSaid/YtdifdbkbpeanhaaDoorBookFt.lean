/- Walks of the book's paint, spill, clean and Apart at sheets of structs: each sheet in a block of its own. (Written by gen_book.py.) -/
import Derived.Test.YtdifdbkbpeanhaaDoorMg3
import Derived.Test.YtdifdbkbpeanhaaDoorRowS
import Derived.Test.YtdifdbkbpeanhaaDoorBookC
set_option linter.unusedSimpArgs false
set_option linter.unusedVariables false
namespace Go.Proofs.YtdifdbkbpeanhaaDoor
namespace BkFt
open Go Go.RowKit Herb

theorem keepG_setCells {g : Nat} {a b : World} (h : KeepG g a b) (o : Nat) : ∀ (vs : List Value) (o : Nat), KeepG g a (b.setCells g o vs)
  | vs, o => by
    induction vs generalizing b o with
    | nil => exact h
    | cons v vs ih => exact ih (h.set o v) (o + 1)
theorem mk_one (m : ByteArray × Nat) : (#[.string m.1, .int .u32 0, .int .u64 (m.2 : Int), .int .u64 0, .int .u8 0, .string ⟨#[]⟩] : Array Value).all (·.oneCell') = true := by rw [Array.all_eq_true_iff_forall_mem]; intro v hv; simp at hv; rcases hv with rfl | rfl | rfl | rfl | rfl | rfl <;> rfl
theorem mk_inf (m : ByteArray × Nat) : (Tryd.prog.info? 27).map (·.size) = some (#[.string m.1, .int .u32 0, .int .u64 (m.2 : Int), .int .u64 0, .int .u8 0, .string ⟨#[]⟩] : Array Value).size := by kernel_rfl

set_option maxRecDepth 100000 in
set_option maxHeartbeats 1600000 in
theorem paint_s (w : World) (g n c : Nat) (m : ByteArray × Nat) (cs : Array Value) (hnc : n ≤ c) (hc : c * 6 ≤ cs.size) (hcs : c ≤ 9223372036854775807) (hg : Blk w g 27 cs) :
    Calls Tryd.prog 90 #[.agg #[.slice (some ⟨g, 0, none⟩) n c, .string m.1, .int .u32 0, .int .u64 (m.2 : Int), .int .u64 0, .int .u8 0, .string ⟨#[]⟩]] w fun e w' => e = .returned (.tuple #[]) ∧ Blk w' g 27 (frS 6 cs [.string m.1, .int .u32 0, .int .u64 (m.2 : Int), .int .u64 0, .int .u8 0, .string ⟨#[]⟩] 0 n) ∧ KeepG g w w' := by
  have hg1 := hg.lt
  have k0 := KeepG.of_below (g := g) ((Below.refl w.heap.size w).alloc (Nat.le_refl _) (.cells #[.slice (some ⟨g, 0, none⟩) n c, .string m.1, .int .u32 0, .int .u64 (m.2 : Int), .int .u64 0, .int .u8 0, .string ⟨#[]⟩] 76))
  have b0 := Blk.new w 76 #[.slice (some ⟨g, 0, none⟩) n c, .string m.1, .int .u32 0, .int .u64 (m.2 : Int), .int .u64 0, .int .u8 0, .string ⟨#[]⟩]
  have g0 := hg.alloc (.cells #[.slice (some ⟨g, 0, none⟩) n c, .string m.1, .int .u32 0, .int .u64 (m.2 : Int), .int .u64 0, .int .u8 0, .string ⟨#[]⟩] 76)
  have hone := mk_one m
  have hinf := mk_inf m
  replace hone := Lib.hid hone
  replace hinf := Lib.hid hinf
  go_enter Tryd.func90, Tryd.ntmps90
  go_wp2
  go_loopw [2] (fun i wr => ∃ k : Nat, k ≤ n ∧ i = .int .i64 (k : Int) ∧ Blk wr g 27 (frS 6 cs [.string m.1, .int .u32 0, .int .u64 (m.2 : Int), .int .u64 0, .int .u8 0, .string ⟨#[]⟩] 0 k) ∧ Blk wr w.heap.size 76 #[.slice (some ⟨g, 0, none⟩) n c, .string m.1, .int .u32 0, .int .u64 (m.2 : Int), .int .u64 0, .int .u8 0, .string ⟨#[]⟩] ∧ KeepG g w wr) (fun i _ => n - (intOf i).toNat)
  case atStart => exact ⟨0, by omega, rfl, by rw [frS_self]; exact g0, b0, k0⟩
  case round =>
    clear b0 g0 k0
    obtain ⟨k, hk, rfl, hG, hb, hK⟩ := hrel
    have cb := hb.cell
    by_cases hlt : k < n
    · have hth : wr.there g (k * 6) (#[.string m.1, .int .u32 0, .int .u64 (m.2 : Int), .int .u64 0, .int .u8 0, .string ⟨#[]⟩] : Array Value).size := hG.there (k * 6) 6 (by rw [frS_size]; omega)
      have hG2 := hG.setCells (#[.string m.1, .int .u32 0, .int .u64 (m.2 : Int), .int .u64 0, .int .u8 0, .string ⟨#[]⟩] : Array Value).toList (k * 6)
      rw [show putAt (frS 6 cs [.string m.1, .int .u32 0, .int .u64 (m.2 : Int), .int .u64 0, .int .u8 0, .string ⟨#[]⟩] 0 k) (k * 6) (#[.string m.1, .int .u32 0, .int .u64 (m.2 : Int), .int .u64 0, .int .u8 0, .string ⟨#[]⟩] : Array Value).toList = frS 6 cs [.string m.1, .int .u32 0, .int .u64 (m.2 : Int), .int .u64 0, .int .u8 0, .string ⟨#[]⟩] 0 (k + 1) from (frS_succ 6 cs [.string m.1, .int .u32 0, .int .u64 (m.2 : Int), .int .u64 0, .int .u8 0, .string ⟨#[]⟩] 0 k (by omega)).symm] at hG2
      have hb2 := hb.setCells_far (show w.heap.size ≠ g by omega) (#[.string m.1, .int .u32 0, .int .u64 (m.2 : Int), .int .u64 0, .int .u8 0, .string ⟨#[]⟩] : Array Value).toList (k * 6)
      have hK2 := keepG_setCells hK 0 (#[.string m.1, .int .u32 0, .int .u64 (m.2 : Int), .int .u64 0, .int .u8 0, .string ⟨#[]⟩] : Array Value).toList (k * 6)
      obtain ⟨w1, hw1⟩ : ∃ w1, wr.setCells g (k * 6) (#[.string m.1, .int .u32 0, .int .u64 (m.2 : Int), .int .u64 0, .int .u8 0, .string ⟨#[]⟩] : Array Value).toList = w1 := ⟨_, rfl⟩
      rw [hw1] at hG2 hb2 hK2
      replace hw1 := Lib.hid hw1
      replace hth := Lib.hid hth
      clear hG hb hK
      go_wp2_with ((with_reducible refine wpList_store_mid rfl 27 (.tmp 15) (.tmp 14) rfl g (k * 6) #[.string m.1, .int .u32 0, .int .u64 (m.2 : Int), .int .u64 0, .int .u8 0, .string ⟨#[]⟩] rfl rfl hth.out hinf.out hone.out ?_); rw [hw1.out])
      go_roundw
      case rel => exact ⟨k + 1, by omega, by go_num, hG2, hb2, hK2⟩
      case measure => simp [intOf]; omega
    · obtain rfl : k = n := by omega
      go_wp2
      go_end0
      exact ⟨rfl, hG, hK⟩

set_option maxRecDepth 100000 in
set_option maxHeartbeats 1600000 in
theorem spill_s (w : World) (g n c : Nat) (m : ByteArray × Nat) (cs : Array Value) (hnc : n ≤ c) (hc : c * 6 ≤ cs.size) (hcs : c ≤ 9223372036854775807) (hg : Blk w g 27 cs) :
    Calls Tryd.prog 91 #[.agg #[.slice (some ⟨g, 0, none⟩) n c, .string m.1, .int .u32 0, .int .u64 (m.2 : Int), .int .u64 0, .int .u8 0, .string ⟨#[]⟩]] w fun e w' => e = .returned (.tuple #[]) ∧ Blk w' g 27 (frS 6 cs [.string m.1, .int .u32 0, .int .u64 (m.2 : Int), .int .u64 0, .int .u8 0, .string ⟨#[]⟩] n c) ∧ KeepG g w w' := by
  have hg1 := hg.lt
  have k0 := KeepG.of_below (g := g) ((Below.refl w.heap.size w).alloc (Nat.le_refl _) (.cells #[.slice (some ⟨g, 0, none⟩) n c, .string m.1, .int .u32 0, .int .u64 (m.2 : Int), .int .u64 0, .int .u8 0, .string ⟨#[]⟩] 76))
  have b0 := Blk.new w 76 #[.slice (some ⟨g, 0, none⟩) n c, .string m.1, .int .u32 0, .int .u64 (m.2 : Int), .int .u64 0, .int .u8 0, .string ⟨#[]⟩]
  have g0 := hg.alloc (.cells #[.slice (some ⟨g, 0, none⟩) n c, .string m.1, .int .u32 0, .int .u64 (m.2 : Int), .int .u64 0, .int .u8 0, .string ⟨#[]⟩] 76)
  have hone := mk_one m
  have hinf := mk_inf m
  replace hone := Lib.hid hone
  replace hinf := Lib.hid hinf
  go_enter Tryd.func91, Tryd.ntmps91
  go_wp2
  go_loopw [3] (fun i wr => ∃ k : Nat, n ≤ k ∧ k ≤ c ∧ i = .int .i64 (k : Int) ∧ Blk wr g 27 (frS 6 cs [.string m.1, .int .u32 0, .int .u64 (m.2 : Int), .int .u64 0, .int .u8 0, .string ⟨#[]⟩] n k) ∧ Blk wr w.heap.size 76 #[.slice (some ⟨g, 0, none⟩) n c, .string m.1, .int .u32 0, .int .u64 (m.2 : Int), .int .u64 0, .int .u8 0, .string ⟨#[]⟩] ∧ KeepG g w wr) (fun i _ => c - (intOf i).toNat)
  case atStart => exact ⟨n, by omega, by omega, rfl, by rw [frS_self]; exact g0, b0, k0⟩
  case round =>
    clear b0 g0 k0
    obtain ⟨k, hnk, hk, rfl, hG, hb, hK⟩ := hrel
    have cb := hb.cell
    by_cases hlt : k < c
    · have hth : wr.there g (k * 6) (#[.string m.1, .int .u32 0, .int .u64 (m.2 : Int), .int .u64 0, .int .u8 0, .string ⟨#[]⟩] : Array Value).size := hG.there (k * 6) 6 (by rw [frS_size]; omega)
      have hG2 := hG.setCells (#[.string m.1, .int .u32 0, .int .u64 (m.2 : Int), .int .u64 0, .int .u8 0, .string ⟨#[]⟩] : Array Value).toList (k * 6)
      rw [show putAt (frS 6 cs [.string m.1, .int .u32 0, .int .u64 (m.2 : Int), .int .u64 0, .int .u8 0, .string ⟨#[]⟩] n k) (k * 6) (#[.string m.1, .int .u32 0, .int .u64 (m.2 : Int), .int .u64 0, .int .u8 0, .string ⟨#[]⟩] : Array Value).toList = frS 6 cs [.string m.1, .int .u32 0, .int .u64 (m.2 : Int), .int .u64 0, .int .u8 0, .string ⟨#[]⟩] n (k + 1) from (frS_succ 6 cs [.string m.1, .int .u32 0, .int .u64 (m.2 : Int), .int .u64 0, .int .u8 0, .string ⟨#[]⟩] n k (by omega)).symm] at hG2
      have hb2 := hb.setCells_far (show w.heap.size ≠ g by omega) (#[.string m.1, .int .u32 0, .int .u64 (m.2 : Int), .int .u64 0, .int .u8 0, .string ⟨#[]⟩] : Array Value).toList (k * 6)
      have hK2 := keepG_setCells hK 0 (#[.string m.1, .int .u32 0, .int .u64 (m.2 : Int), .int .u64 0, .int .u8 0, .string ⟨#[]⟩] : Array Value).toList (k * 6)
      obtain ⟨w1, hw1⟩ : ∃ w1, wr.setCells g (k * 6) (#[.string m.1, .int .u32 0, .int .u64 (m.2 : Int), .int .u64 0, .int .u8 0, .string ⟨#[]⟩] : Array Value).toList = w1 := ⟨_, rfl⟩
      rw [hw1] at hG2 hb2 hK2
      replace hw1 := Lib.hid hw1
      replace hth := Lib.hid hth
      clear hG hb hK
      go_wp2_with ((with_reducible refine wpList_store_mid rfl 27 (.tmp 23) (.tmp 22) rfl g (k * 6) #[.string m.1, .int .u32 0, .int .u64 (m.2 : Int), .int .u64 0, .int .u8 0, .string ⟨#[]⟩] rfl rfl hth.out hinf.out hone.out ?_); rw [hw1.out])
      go_roundw
      case rel => exact ⟨k + 1, by omega, by omega, by go_num, hG2, hb2, hK2⟩
      case measure => simp [intOf]; omega
    · obtain rfl : k = c := by omega
      go_wp2
      go_end0
      exact ⟨rfl, hG, hK⟩

set_option maxRecDepth 100000 in
set_option maxHeartbeats 1600000 in
theorem clean_s (w : World) (g n c : Nat) (m : ByteArray × Nat) (cs : Array Value) (hnc : n ≤ c) (hcs : c ≤ 9223372036854775807) (hg : Blk w g 27 cs) (hv : ∀ j, j < c * 6 → cs[j]? = ([.string m.1, .int .u32 0, .int .u64 (m.2 : Int), .int .u64 0, .int .u8 0, .string ⟨#[]⟩] : List Value)[j % 6]?) :
    Calls Tryd.prog 89 #[.agg #[.slice (some ⟨g, 0, none⟩) n c, .string m.1, .int .u32 0, .int .u64 (m.2 : Int), .int .u64 0, .int .u8 0, .string ⟨#[]⟩]] w fun e w' => e = .returned (.bool true) ∧ Below w.heap.size w w' := by
  have hgd : Tryd.prog.eqGuardType Tryd.prog.depth 27 = false := by kernel_rfl
  have hg1 := hg.lt
  have k0 := (Below.refl w.heap.size w).alloc (Nat.le_refl _) (.cells #[.slice (some ⟨g, 0, none⟩) n c, .string m.1, .int .u32 0, .int .u64 (m.2 : Int), .int .u64 0, .int .u8 0, .string ⟨#[]⟩] 76)
  have b0 := Blk.new w 76 #[.slice (some ⟨g, 0, none⟩) n c, .string m.1, .int .u32 0, .int .u64 (m.2 : Int), .int .u64 0, .int .u8 0, .string ⟨#[]⟩]
  have heq := fun W => fact_refl W m.1 ⟨#[]⟩ 0 (m.2 : Int) 0 0
  replace hv := Lib.hid hv
  go_enter Tryd.func89, Tryd.ntmps89
  go_wp2
  go_loopw [4] (fun i wr => ∃ k : Nat, k ≤ c ∧ i = .int .i64 (k : Int) ∧ Blk wr w.heap.size 76 #[.slice (some ⟨g, 0, none⟩) n c, .string m.1, .int .u32 0, .int .u64 (m.2 : Int), .int .u64 0, .int .u8 0, .string ⟨#[]⟩] ∧ Below w.heap.size w wr) (fun i _ => c - (intOf i).toNat)
  case atStart => exact ⟨0, by omega, rfl, b0, k0⟩
  case round =>
    clear b0 k0
    obtain ⟨k, hk, rfl, hb, hK⟩ := hrel
    by_cases hlt : k < c
    · have cb := hb.cell
      have ht : ∀ j, j < 6 → wr.cell? ⟨g, k * 6 + j, none⟩ = ([.string m.1, .int .u32 0, .int .u64 (m.2 : Int), .int .u64 0, .int .u8 0, .string ⟨#[]⟩] : List Value)[j]? := fun j hj => by
        rw [(hg.below hK hg1).cell, hv.out _ (by omega), Nat.mul_comm k 6, Nat.mul_add_mod, Nat.mod_eq_of_lt hj]
      have t0 := ht 0 (by omega)
      rw [Nat.add_zero] at t0
      have t1 := ht 1 (by omega)
      have t2 := ht 2 (by omega)
      have t3 := ht 3 (by omega)
      have t4 := ht 4 (by omega)
      have t5 := ht 5 (by omega)
      clear ht
      go_wp2
      go_quiet (fail)
      go_wp2
      go_roundw
      case rel => exact ⟨k + 1, by omega, by go_num, hb.drewN _, below_drewN hK _⟩
      case measure => simp [intOf]; omega
    · go_wp2
      go_ret
      exact ⟨rfl, hK⟩
theorem paint_0 (w : World) (A : Option Addr) (m : ByteArray × Nat) : Calls Tryd.prog 90 #[.agg #[.slice A 0 0, .string m.1, .int .u32 0, .int .u64 (m.2 : Int), .int .u64 0, .int .u8 0, .string ⟨#[]⟩]] w fun e w' => e = .returned (.tuple #[]) ∧ Below w.heap.size w w' := by
  have k0 := (Below.refl w.heap.size w).alloc (Nat.le_refl _) (.cells #[.slice A 0 0, .string m.1, .int .u32 0, .int .u64 (m.2 : Int), .int .u64 0, .int .u8 0, .string ⟨#[]⟩] 76)
  go_enter Tryd.func90, Tryd.ntmps90
  go_wp2
  go_loop [2] (fun i => i = .int .i64 0) (fun _ => 0)
  case atStart => rfl
  case round =>
    subst hrel
    go_wp2
    go_end0
    exact ⟨rfl, k0⟩
theorem spill_0 (w : World) (A : Option Addr) (m : ByteArray × Nat) : Calls Tryd.prog 91 #[.agg #[.slice A 0 0, .string m.1, .int .u32 0, .int .u64 (m.2 : Int), .int .u64 0, .int .u8 0, .string ⟨#[]⟩]] w fun e w' => e = .returned (.tuple #[]) ∧ Below w.heap.size w w' := by
  have k0 := (Below.refl w.heap.size w).alloc (Nat.le_refl _) (.cells #[.slice A 0 0, .string m.1, .int .u32 0, .int .u64 (m.2 : Int), .int .u64 0, .int .u8 0, .string ⟨#[]⟩] 76)
  go_enter Tryd.func91, Tryd.ntmps91
  go_wp2
  go_loop [3] (fun i => i = .int .i64 0) (fun _ => 0)
  case atStart => rfl
  case round =>
    subst hrel
    go_wp2
    go_end0
    exact ⟨rfl, k0⟩
theorem clean_0 (w : World) (A : Option Addr) (m : ByteArray × Nat) : Calls Tryd.prog 89 #[.agg #[.slice A 0 0, .string m.1, .int .u32 0, .int .u64 (m.2 : Int), .int .u64 0, .int .u8 0, .string ⟨#[]⟩]] w fun e w' => e = .returned (.bool true) ∧ Below w.heap.size w w' := by
  have k0 := (Below.refl w.heap.size w).alloc (Nat.le_refl _) (.cells #[.slice A 0 0, .string m.1, .int .u32 0, .int .u64 (m.2 : Int), .int .u64 0, .int .u8 0, .string ⟨#[]⟩] 76)
  go_enter Tryd.func89, Tryd.ntmps89
  go_wp2
  go_loop [4] (fun i => i = .int .i64 0) (fun _ => 0)
  case atStart => rfl
  case round =>
    subst hrel
    go_wp2
    go_ret
    exact ⟨rfl, k0⟩

/-- The sheet of some structs. -/
def sheetS (A : Option Addr) (n c : Nat) (m : ByteArray × Nat) : Value := .iface 76 (.agg #[.slice A n c, .string m.1, .int .u32 0, .int .u64 (m.2 : Int), .int .u64 0, .int .u8 0, .string ⟨#[]⟩])
/-- A sheet of bytes, and its mark. -/
structure Sh where
  A : Option Addr
  n : Nat
  c : Nat
  m : ByteArray × Nat
def Sh.v (q : Sh) : Value := sheetS q.A q.n q.c q.m
/-- The sheets lie in blocks of their own; the first f cells of each hold its mark. -/
def ShSt (w : World) (Q : List Sh) (f : Nat → Nat) : Prop :=
  ∀ j (h : j < Q.length), (Q[j].n ≤ Q[j].c) ∧ Q[j].c ≤ 9223372036854775807 ∧ (Q[j].c = 0 ∨ ∃ g cs, Q[j].A = some ⟨g, 0, none⟩ ∧ Blk w g 27 cs ∧ Q[j].c * 6 ≤ cs.size ∧ f j ≤ Q[j].c ∧ ∀ x, x < f j * 6 → cs[x]? = ([.string Q[j].m.1, .int .u32 0, .int .u64 (Q[j].m.2 : Int), .int .u64 0, .int .u8 0, .string ⟨#[]⟩] : List Value)[x % 6]?)
def ShDis (Q : List Sh) : Prop := ∀ i j (hi : i < Q.length) (hj : j < Q.length), i ≠ j → ∀ g g', Q[i].c ≠ 0 → Q[j].c ≠ 0 → Q[i].A = some ⟨g, 0, none⟩ → Q[j].A = some ⟨g', 0, none⟩ → g ≠ g'
def ShUp (B : Nat) (Q : List Sh) : Prop := ∀ i (hi : i < Q.length), Q[i].c ≠ 0 → ∀ g, Q[i].A = some ⟨g, 0, none⟩ → B ≤ g

theorem bookAt_keepG {w w' : World} {base p g : Nat} {S : List Value} {cs : Array Value} (h : BookAt w base p S) (hg : Blk w g 27 cs) (hk : KeepG g w w') : BookAt w' base p S := by
  obtain ⟨A, c, h1, h2⟩ := h
  exact ⟨A, c, hk.blk h1 (h1.ne_ hg (by decide)), h2.kept (row := some g) ⟨hk.os, hk.tape, hk.output, hk.size, fun k hk2 hn => hk.block k hk2 (fun e => hn (by rw [e]))⟩ (.inr (fun e => own_neB h2 hg (by decide) e.symm))⟩

theorem ShSt.congr {w : World} {Q : List Sh} {f f' : Nat → Nat} (h : ShSt w Q f) (e : ∀ j, j < Q.length → f j = f' j) : ShSt w Q f' := by
  intro j hj
  obtain ⟨h1, h2, h3⟩ := h j hj
  rw [e j hj] at h3
  exact ⟨h1, h2, h3⟩
theorem ShSt.below {w w' : World} {Q : List Sh} {f : Nat → Nat} (h : ShSt w Q f) (hb : Below w.heap.size w w') : ShSt w' Q f := by
  intro j hj
  obtain ⟨h1, h2, h3⟩ := h j hj
  refine ⟨h1, h2, h3.imp id ?_⟩
  rintro ⟨g, cs, e, hg, rest⟩
  exact ⟨g, cs, e, hg.below hb hg.lt, rest⟩
theorem ShSt.step {w w' : World} {Q : List Sh} {f : Nat → Nat} (h : ShSt w Q f) (hdis : ShDis Q) {i F g : Nat} (hi : i < Q.length) (hc : Q[i].c ≠ 0) (hA : Q[i].A = some ⟨g, 0, none⟩) {cs' : Array Value} (hg : Blk w' g 27 cs') (hs : Q[i].c * 6 ≤ cs'.size) (hF : F ≤ Q[i].c)
    (hv : ∀ x, x < F * 6 → cs'[x]? = ([.string Q[i].m.1, .int .u32 0, .int .u64 (Q[i].m.2 : Int), .int .u64 0, .int .u8 0, .string ⟨#[]⟩] : List Value)[x % 6]?) (hk : KeepG g w w') : ShSt w' Q (fun j => if j = i then F else f j) := by
  intro j hj
  obtain ⟨h1, h2, h3⟩ := h j hj
  refine ⟨h1, h2, ?_⟩
  by_cases e : j = i
  · subst e
    exact .inr ⟨g, cs', hA, hg, hs, by simpa using hF, by simpa using hv⟩
  · rcases h3 with h3 | ⟨g', cs, e1, e2, e3, e4, e5⟩
    · exact .inl h3
    · by_cases hc0 : Q[j].c = 0
      · exact .inl hc0
      · exact .inr ⟨g', cs, e1, hk.blk e2 (hdis j i hj hi e g' g hc0 hc e1 hA), e3, by simpa [e] using e4, by simpa [e] using e5⟩
theorem ShSt.step0 {w w' : World} {Q : List Sh} {f : Nat → Nat} (h : ShSt w Q f) {i F : Nat} (hi : i < Q.length) (hc : Q[i].c = 0) (hb : Below w.heap.size w w') : ShSt w' Q (fun j => if j = i then F else f j) := by
  intro j hj
  obtain ⟨h1, h2, h3⟩ := h.below hb j hj
  refine ⟨h1, h2, ?_⟩
  by_cases e : j = i
  · subst e; exact .inl hc
  · simpa [e] using h3

theorem paint_st (w : World) (Q : List Sh) (f : Nat → Nat) (hst : ShSt w Q f) (hdis : ShDis Q) (i : Nat) (hi : i < Q.length) (A : Option Addr) (n c : Nat) (m : ByteArray × Nat) (hq : Q[i] = ⟨A, n, c, m⟩) (base p B : Nat) (S : List Value) (hb : BookAt w base p S) (hB : B ≤ w.heap.size) (hup : ShUp B Q) :
    Calls Tryd.prog 90 #[.agg #[.slice A n c, .string m.1, .int .u32 0, .int .u64 (m.2 : Int), .int .u64 0, .int .u8 0, .string ⟨#[]⟩]] w fun e w' => e = .returned (.tuple #[]) ∧ ShSt w' Q (fun j => if j = i then n else f j) ∧ BookAt w' base p S ∧ Below B w w' := by
  obtain ⟨h1, h2, h3⟩ := hst i hi
  have hu := hup i hi
  have hs := fun {w' : World} {F g : Nat} => ShSt.step (w' := w') hst hdis (F := F) (g := g) hi
  rw [hq] at h1 h2 h3 hu hs
  simp only at h1 h2 h3 hu hs
  by_cases hc : c = 0
  · subst hc
    obtain rfl : n = 0 := by omega
    refine (paint_0 w A m).mono ?_
    rintro _ w' ⟨rfl, k0⟩
    exact ⟨rfl, hst.step0 hi (by rw [hq]) k0, hb.below k0, k0.mono hB⟩
  · rcases h3 with h3 | ⟨g, cs, rfl, hg, h5, _, _⟩
    · exact absurd h3 hc
    · refine (paint_s w g n c m cs h1 h5 h2 hg).mono ?_
      rintro _ w' ⟨rfl, k1, k2⟩
      exact ⟨rfl, hs hc rfl k1 (by rw [frS_size]; exact h5) h1 (fun x hx => by rw [frS_get 6 cs [.string m.1, .int .u32 0, .int .u64 (m.2 : Int), .int .u64 0, .int .u8 0, .string ⟨#[]⟩] 0 n x rfl (by omega) (by omega) (by omega), if_pos ⟨by omega, hx⟩]) k2, bookAt_keepG hb hg k2, k2.below (Below.refl _ _) hB (hu hc g rfl)⟩
theorem spill_st (w : World) (Q : List Sh) (f : Nat → Nat) (hst : ShSt w Q f) (hdis : ShDis Q) (i : Nat) (hi : i < Q.length) (A : Option Addr) (n c : Nat) (m : ByteArray × Nat) (hq : Q[i] = ⟨A, n, c, m⟩) (hf : f i = n) (base p B : Nat) (S : List Value) (hb : BookAt w base p S) (hB : B ≤ w.heap.size) (hup : ShUp B Q) :
    Calls Tryd.prog 91 #[.agg #[.slice A n c, .string m.1, .int .u32 0, .int .u64 (m.2 : Int), .int .u64 0, .int .u8 0, .string ⟨#[]⟩]] w fun e w' => e = .returned (.tuple #[]) ∧ ShSt w' Q (fun j => if j = i then c else f j) ∧ BookAt w' base p S ∧ Below B w w' := by
  obtain ⟨h1, h2, h3⟩ := hst i hi
  have hu := hup i hi
  have hs := fun {w' : World} {F g : Nat} => ShSt.step (w' := w') hst hdis (F := F) (g := g) hi
  rw [hf] at h3
  rw [hq] at h1 h2 h3 hu hs
  simp only at h1 h2 h3 hu hs
  by_cases hc : c = 0
  · subst hc
    obtain rfl : n = 0 := by omega
    refine (spill_0 w A m).mono ?_
    rintro _ w' ⟨rfl, k0⟩
    exact ⟨rfl, hst.step0 hi (by rw [hq]) k0, hb.below k0, k0.mono hB⟩
  · rcases h3 with h3 | ⟨g, cs, rfl, hg, h5, _, h7⟩
    · exact absurd h3 hc
    · refine (spill_s w g n c m cs h1 h5 h2 hg).mono ?_
      rintro _ w' ⟨rfl, k1, k2⟩
      refine ⟨rfl, hs hc rfl k1 (by rw [frS_size]; exact h5) (Nat.le_refl _) (fun x hx => ?_) k2, bookAt_keepG hb hg k2, k2.below (Below.refl _ _) hB (hu hc g rfl)⟩
      rw [frS_get 6 cs [.string m.1, .int .u32 0, .int .u64 (m.2 : Int), .int .u64 0, .int .u8 0, .string ⟨#[]⟩] n c x rfl (by omega) (by omega) (by omega)]
      by_cases e : n * 6 ≤ x
      · rw [if_pos ⟨e, hx⟩]
      · rw [if_neg (by omega)]
        exact h7 x (by omega)
theorem clean_st (w : World) (Q : List Sh) (f : Nat → Nat) (hst : ShSt w Q f) (i : Nat) (hi : i < Q.length) (A : Option Addr) (n c : Nat) (m : ByteArray × Nat) (hq : Q[i] = ⟨A, n, c, m⟩) (hf : f i = c) :
    Calls Tryd.prog 89 #[.agg #[.slice A n c, .string m.1, .int .u32 0, .int .u64 (m.2 : Int), .int .u64 0, .int .u8 0, .string ⟨#[]⟩]] w fun e w' => e = .returned (.bool true) ∧ Below w.heap.size w w' := by
  obtain ⟨h1, h2, h3⟩ := hst i hi
  rw [hf] at h3
  rw [hq] at h1 h2 h3
  simp only at h1 h2 h3
  by_cases hc : c = 0
  · subst hc
    obtain rfl : n = 0 := by omega
    exact clean_0 w A m
  · rcases h3 with h3 | ⟨g, cs, rfl, hg, h5, _, h7⟩
    · exact absurd h3 hc
    · exact clean_s w g n c m cs h1 h2 hg h7

/-- How much of each sheet holds its mark: behind i sheets of a round. -/
def shF (Q : List Sh) (a b : Sh → Nat) (i j : Nat) : Nat := match Q[j]? with | some q => if j < i then b q else a q | none => 0
theorem shF_step (Q : List Sh) (a b : Sh → Nat) (i j : Nat) (hj : j < Q.length) (hi : i < Q.length) : (if j = i then b Q[i] else shF Q a b i j) = shF Q a b (i + 1) j := by
  unfold shF
  rw [List.getElem?_eq_getElem hj]
  by_cases e : j = i
  · subst e; simp
  · simp only [if_neg e]
    by_cases e2 : j < i
    · rw [if_pos e2, if_pos (by omega)]
    · rw [if_neg e2, if_neg (by omega)]
theorem shF_at (Q : List Sh) (a b : Sh → Nat) (i : Nat) (hi : i < Q.length) : shF Q a b i i = a Q[i] := by
  unfold shF
  rw [List.getElem?_eq_getElem hi]
  simp
theorem shF_end (Q : List Sh) (a b d : Sh → Nat) (i j : Nat) (hj : j < Q.length) (hi : Q.length ≤ i) : shF Q a b i j = shF Q b d 0 j := by
  unfold shF
  rw [List.getElem?_eq_getElem hj]
  simp only
  rw [if_pos (by omega), if_neg (by omega)]

set_option maxRecDepth 100000 in
set_option maxHeartbeats 3200000 in
theorem apart_any (w : World) (base p B : Nat) (Q : List Sh) (hb : BookAt w base p (Q.map Sh.v)) (hB : B ≤ w.heap.size) (hQ : Q.length ≤ 8) (hst : ShSt w Q (fun _ => 0)) (hdis : ShDis Q) (hup : ShUp B Q) :
    Calls Tryd.prog 20 #[.pointer (some ⟨p, 0, none⟩)] w fun e w' => e = .returned (.bool true) ∧ Below B w w' := by
  obtain ⟨k, hk⟩ : ∃ k, Q.length = k := ⟨_, rfl⟩
  have hst0 : ShSt w Q (shF Q (fun _ => 0) Sh.n 0) := hst.congr (fun j hj => by unfold shF; rw [List.getElem?_eq_getElem hj]; simp)
  have hopen : ∀ W, BookAt W base p (Q.map Sh.v) → ∃ A c, W.cell? ⟨p, 0, none⟩ = some (.slice A k c) ∧ Rd W 1 A k (Q.map Sh.v) := by
    intro W h
    obtain ⟨A, c, h1, h2⟩ := h
    rw [List.length_map, hk] at h1 h2
    exact ⟨A, c, h1.cell 0, Rd.of_own h2⟩
  have hrow : ∀ i (h : i < Q.length), ∀ A n c m, Q[i] = ⟨A, n, c, m⟩ → (Q.map Sh.v)[i]? = some (.iface 76 (.agg #[.slice A n c, .string m.1, .int .u32 0, .int .u64 (m.2 : Int), .int .u64 0, .int .u8 0, .string ⟨#[]⟩])) := by
    intro i h A n c m hq
    rw [List.getElem?_map, List.getElem?_eq_getElem h, hq]
    rfl
  rw [hk] at hQ
  replace hk := Lib.hid hk
  replace hopen := Lib.hid hopen
  replace hrow := Lib.hid hrow
  obtain ⟨A0, cb0, c0, _⟩ := hopen.out w hb
  have d1 : decide ((250 : Int) < (k : Int)) = false := decide_eq_false (by omega)
  go_enter Tryd.func20, Tryd.ntmps20
  go_wp2
  clear c0 d1 hst
  go_loopw [3] (fun i wr => ∃ i0 : Nat, i0 ≤ k ∧ i = .int .i64 (i0 : Int) ∧ BookAt wr base p (Q.map Sh.v) ∧ ShSt wr Q (shF Q (fun _ => 0) Sh.n i0) ∧ Below B w wr) (fun i _ => k - (intOf i).toNat)
  case atStart => exact ⟨0, by omega, rfl, hb, hst0, Below.refl _ _⟩
  case round =>
    skip
    obtain ⟨i0, hi, rfl, hbk, hs, hbel⟩ := hrel
    obtain ⟨Ab, cb, c0, hrd⟩ := hopen.out wr hbk
    have hBw : B ≤ wr.heap.size := Nat.le_trans hB hbel.size
    by_cases hlt : i0 < k
    · obtain ⟨b, off, rfl, _, hc⟩ := hrd.at_ hlt
      have hil : i0 < Q.length := by rw [hk.out]; exact hlt
      obtain ⟨q, hq⟩ : ∃ q, Q[i0] = q := ⟨_, rfl⟩
      obtain ⟨A, n, c, m⟩ := q
      have hci := hc i0 _ (hrow.out i0 hil A n c m hq)
      have pc := paint_st wr Q _ hs hdis i0 hil A n c m hq base p B _ hbk hBw hup
      replace pc := Lib.hid pc
      replace hq := Lib.hid hq
      clear hc hrd
      go_wp2_with fail
      refine pc.out.mono ?_
      clear c0 hci pc
      rintro _ w2 ⟨rfl, s2, k2, b2⟩
      have s3 := s2.congr (f' := shF Q (fun _ => 0) Sh.n (i0 + 1)) (fun j hj => by rw [← shF_step Q (fun _ => 0) Sh.n i0 j hj hil, hq.out])
      clear s2
      go_wp2
      go_roundw
      case rel => exact ⟨i0 + 1, by omega, by go_num, k2, s3, hbel.trans b2⟩
      case measure => simp [intOf]; omega
    · obtain rfl : k = i0 := by omega
      go_wp2
      have hs1 := hs.congr (f' := shF Q Sh.n Sh.c 0) (fun j hj => shF_end Q _ _ Sh.c k j hj (by rw [hk.out]; exact Nat.le_refl _))
      have hbk1 := hbk
      have hbel1 := hbel
      clear c0 hrd hs hbk hbel hBw
      obtain ⟨wo, hwo⟩ : ∃ wo : World, wo = wr := ⟨_, rfl⟩
      rw [← hwo] at hs1 hbk1 hbel1 ⊢
      clear hwo
      go_loopw [4] (fun i wr => ∃ i0 : Nat, i0 ≤ k ∧ i = .int .i64 (i0 : Int) ∧ BookAt wr base p (Q.map Sh.v) ∧ ShSt wr Q (shF Q Sh.n Sh.c i0) ∧ Below B w wr) (fun i _ => k - (intOf i).toNat)
      case atStart => exact ⟨0, by omega, rfl, hbk1, hs1, hbel1⟩
      case round =>
        clear hbk1 hs1 hbel1
        obtain ⟨i0, hi, rfl, hbk, hs, hbel⟩ := hrel
        obtain ⟨Ab, cb, c0, hrd⟩ := hopen.out wr hbk
        have hBw : B ≤ wr.heap.size := Nat.le_trans hB hbel.size
        by_cases hlt : i0 < k
        · obtain ⟨b, off, rfl, _, hc⟩ := hrd.at_ hlt
          have hil : i0 < Q.length := by rw [hk.out]; exact hlt
          obtain ⟨q, hq⟩ : ∃ q, Q[i0] = q := ⟨_, rfl⟩
          obtain ⟨A, n, c, m⟩ := q
          have hci := hc i0 _ (hrow.out i0 hil A n c m hq)
          have pc := spill_st wr Q _ hs hdis i0 hil A n c m hq (by rw [shF_at _ _ _ _ hil, hq]) base p B _ hbk hBw hup
          replace pc := Lib.hid pc
          replace hq := Lib.hid hq
          clear hc hrd
          go_wp2_with fail
          refine pc.out.mono ?_
          clear c0 hci pc
          rintro _ w2 ⟨rfl, s2, k2, b2⟩
          have s3 := s2.congr (f' := shF Q Sh.n Sh.c (i0 + 1)) (fun j hj => by rw [← shF_step Q Sh.n Sh.c i0 j hj hil, hq.out])
          clear s2
          go_wp2
          go_roundw
          case rel => exact ⟨i0 + 1, by omega, by go_num, k2, s3, hbel.trans b2⟩
          case measure => simp [intOf]; omega
        · obtain rfl : k = i0 := by omega
          go_wp2
          have hs1 := hs.congr (f' := shF Q Sh.c Sh.c 0) (fun j hj => shF_end Q _ _ Sh.c k j hj (by rw [hk.out]; exact Nat.le_refl _))
          have hbk1 := hbk
          have hbel1 := hbel
          clear c0 hrd hs hbk hbel hBw
          obtain ⟨wo, hwo⟩ : ∃ wo : World, wo = wr := ⟨_, rfl⟩
          rw [← hwo] at hs1 hbk1 hbel1 ⊢
          clear hwo
          go_loopw [5] (fun i wr => ∃ i0 : Nat, i0 ≤ k ∧ i = .int .i64 (i0 : Int) ∧ BookAt wr base p (Q.map Sh.v) ∧ ShSt wr Q (shF Q Sh.c Sh.c i0) ∧ Below B w wr) (fun i _ => k - (intOf i).toNat)
          case atStart => exact ⟨0, by omega, rfl, hbk1, hs1, hbel1⟩
          case round =>
            clear hbk1 hs1 hbel1
            obtain ⟨i0, hi, rfl, hbk, hs, hbel⟩ := hrel
            obtain ⟨Ab, cb, c0, hrd⟩ := hopen.out wr hbk
            have hBw : B ≤ wr.heap.size := Nat.le_trans hB hbel.size
            by_cases hlt : i0 < k
            · obtain ⟨b, off, rfl, _, hc⟩ := hrd.at_ hlt
              have hil : i0 < Q.length := by rw [hk.out]; exact hlt
              obtain ⟨q, hq⟩ : ∃ q, Q[i0] = q := ⟨_, rfl⟩
              obtain ⟨A, n, c, m⟩ := q
              have hci := hc i0 _ (hrow.out i0 hil A n c m hq)
              have pc := clean_st wr Q _ hs i0 hil A n c m hq (by rw [shF_at _ _ _ _ hil, hq])
              replace pc := Lib.hid pc
              replace hq := Lib.hid hq
              clear hc hrd
              go_wp2_with fail
              refine pc.out.mono ?_
              clear c0 hci pc
              rintro _ w2 ⟨rfl, b2⟩
              have s3 := (hs.below b2).congr (f' := shF Q Sh.c Sh.c (i0 + 1)) (fun j hj => by unfold shF; rw [List.getElem?_eq_getElem hj]; simp)
              have k2 := hbk.below b2
              have b3 := b2.mono hBw
              go_wp2
              go_roundw
              case rel => exact ⟨i0 + 1, by omega, by go_num, k2, s3, hbel.trans b3⟩
              case measure => simp [intOf]; omega
            · obtain rfl : k = i0 := by omega
              go_wp2
              go_ret
              exact ⟨rfl, hbel⟩

set_option maxHeartbeats 800000 in
theorem put_any (w : World) (base p : Nat) (S : List Value) (hb : BookAt w base p S) (hbase : base ≤ w.heap.size) (k : Nat) (hS : S.length = k) (hk : k < 8) (A : Option Addr) (n c : Nat) :
    Calls Tryd.prog 19 #[.pointer (some ⟨p, 0, none⟩), .slice A n c] w fun e w' => e = .returned (.tuple #[]) ∧ (∃ m, BookAt w' base p (S ++ [sheetS A n c m])) ∧ KeepT w w' ∧ (base ≤ p → Below base w w') := by
  have hb' := hb
  obtain ⟨Ab, cb, hp, _⟩ := hb'
  rw [hS] at hp
  have pm := mark_any w p k Ab cb hp (by omega)
  have pk := fun (m : ByteArray × Nat) => keep_any w base p S hb hbase (by omega) 76 (.agg #[.slice A n c, .string m.1, .int .u32 0, .int .u64 (m.2 : Int), .int .u64 0, .int .u8 0, .string ⟨#[]⟩])
  replace pk := Lib.hid pk
  clear hb hS
  go_enter Tryd.func19, Tryd.ntmps19
  go_wp2_with fail
  refine pm.mono ?_
  rintro _ _ ⟨⟨s, rfl⟩, rfl⟩
  go_wp2_with fail
  refine (pk.out (s, k + 1)).mono ?_
  rintro _ w2 ⟨rfl, h1, h2, h3⟩
  go_wp2
  go_end0
  exact ⟨rfl, ⟨(s, k + 1), h1⟩, h2, h3⟩
theorem keepT_blk {w w' : World} (h : KeepT w w') {g : Nat} {cs : Array Value} (hg : Blk w g 27 cs) : Blk w' g 27 cs := h.block g cs _ _ hg (by decide) (by decide)
/-- A list of bytes in a block of its own, made between two moments (or one without room). -/
def Own (w : World) (B E : Nat) (A : Option Addr) (n c : Nat) : Prop :=
  n ≤ c ∧ c ≤ 9223372036854775807 ∧ (c = 0 ∨ ∃ g cur, A = some ⟨g, 0, none⟩ ∧ B ≤ g ∧ g < E ∧ Blk w g 27 cur ∧ c * 6 ≤ cur.size)
theorem Own.none (w : World) (B E : Nat) : Own w B E none 0 0 := ⟨Nat.le_refl _, by omega, .inl rfl⟩
theorem Own.below {w w' : World} {B E n c : Nat} {A : Option Addr} (h : Own w B E A n c) (hb : Below w.heap.size w w') : Own w' B E A n c :=
  ⟨h.1, h.2.1, h.2.2.imp id fun ⟨g, cur, e, h1, h2, h3, h4⟩ => ⟨g, cur, e, h1, h2, h3.below hb h3.lt, h4⟩⟩
theorem Own.keepT {w w' : World} {B E n c : Nat} {A : Option Addr} (h : Own w B E A n c) (hb : KeepT w w') : Own w' B E A n c :=
  ⟨h.1, h.2.1, h.2.2.imp id fun ⟨g, cur, e, h1, h2, h3, h4⟩ => ⟨g, cur, e, h1, h2, keepT_blk hb h3, h4⟩⟩
/-- An owned row, cut to its length. -/
theorem Own.of_row {w : World} {base n cap : Nat} {A : Option Addr} {xs : List Value} (h : w.ownsRow base 27 6 (.slice A n cap) n xs) : Own w base w.heap.size A n n := by
  refine ⟨Nat.le_refl _, ?_, ?_⟩
  · rcases h.2 with ⟨h0, h1⟩ | ⟨g', cap', cur, h0, hbg, hg, hnc, hcm, hcs, _⟩
    · omega
    · unfold maxLen at hcm
      omega
  · rcases h.2 with ⟨h0, h1⟩ | ⟨g', cap', cur, h0, hbg, hg, hnc, hcm, hcs, _⟩
    · exact .inl h1
    · cases h0
      have hk : Blk w g' 27 cur := hg
      exact .inr ⟨g', cur, rfl, hbg, hk.lt, hk, by omega⟩
/-- A whole block. -/
theorem Own.of_blk {w : World} {B g n c : Nat} {cur : Array Value} (hk : Blk w g 27 cur) (hB : B ≤ g) (hnc : n ≤ c) (hc : c * 6 ≤ cur.size) (hm : c ≤ 9223372036854775807) : Own w B w.heap.size (some ⟨g, 0, Option.none⟩) n c :=
  ⟨hnc, hm, .inr ⟨g, cur, rfl, hB, hk.lt, hk, hc⟩⟩
theorem sheets_ok {w : World} {Q : List Sh} (U : Nat) (B E : Nat → Nat) (hBE : ∀ i j, i < Q.length → j < Q.length → i ≠ j → E i ≤ B j ∨ E j ≤ B i) (hU : ∀ i, i < Q.length → U ≤ B i) (h : ∀ j (hj : j < Q.length), Own w (B j) (E j) Q[j].A Q[j].n Q[j].c) : ShSt w Q (fun _ => 0) ∧ ShDis Q ∧ ShUp U Q := by
  refine ⟨fun j hj => ?_, fun i j hi hj hij g g' hci hcj hA hA' => ?_, fun i hi hc g hA => ?_⟩
  · obtain ⟨h1, h2, h3⟩ := h j hj
    refine ⟨h1, h2, h3.imp id fun ⟨g, cur, e, _, _, hk, hs⟩ => ⟨g, cur, e, hk, hs, Nat.zero_le _, fun x hx => absurd hx (Nat.not_lt_zero x)⟩⟩
  · rcases (h i hi).2.2 with h0 | ⟨gi, ci, ei, b1, b2, _, _⟩
    · exact absurd h0 hci
    rcases (h j hj).2.2 with h0 | ⟨gj, cj, ej, d1, d2, _, _⟩
    · exact absurd h0 hcj
    rw [hA] at ei
    rw [hA'] at ej
    cases ei
    cases ej
    have := hBE i j hi hj hij
    omega
  · rcases (h i hi).2.2 with h0 | ⟨gi, ci, ei, b1, b2, _, _⟩
    · exact absurd h0 hc
    rw [hA] at ei
    cases ei
    have := hU i hi
    omega
/-- Two sheets. -/
theorem sheets2 {w : World} {U B0 E0 B1 E1 : Nat} {q0 q1 : Sh} (h0 : Own w B0 E0 q0.A q0.n q0.c) (h1 : Own w B1 E1 q1.A q1.n q1.c) (hd : E0 ≤ B1 ∨ E1 ≤ B0) (hU0 : U ≤ B0) (hU1 : U ≤ B1) :
    ShSt w [q0, q1] (fun _ => 0) ∧ ShDis [q0, q1] ∧ ShUp U [q0, q1] :=
  sheets_ok U (fun i => match i with | 0 => B0 | _ => B1) (fun i => match i with | 0 => E0 | _ => E1)
    (fun i j hi hj hij => by
      match i, j, hi, hj with
      | 0, 0, _, _ => exact absurd rfl hij
      | 1, 1, _, _ => exact absurd rfl hij
      | 0, 1, _, _ => exact hd
      | 1, 0, _, _ => exact hd.symm)
    (fun i hi => by
      match i, hi with
      | 0, _ => exact hU0
      | 1, _ => exact hU1)
    (fun j hj => by
      match j, hj with
      | 0, _ => exact h0
      | 1, _ => exact h1)
end BkFt
end Go.Proofs.YtdifdbkbpeanhaaDoor
