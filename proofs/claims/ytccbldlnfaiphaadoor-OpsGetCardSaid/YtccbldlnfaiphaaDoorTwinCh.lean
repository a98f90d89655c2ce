/- Walks of what all layers' statements use, at changes: copied, TwinChanges, kept, LeftChanges, TwinOp, LeftOp. -/
import Derived.Test.YtccbldlnfaiphaaDoorOpG
import Derived.Test.YtccbldlnfaiphaaDoorRowS
set_option linter.unusedSimpArgs false
set_option linter.unusedVariables false
namespace Go.Proofs.YtccbldlnfaiphaaDoor
open Go Go.RowKit Herb Herb.Cm

theorem chC_part (xs : List Ch) (k : Nat) (hk : k < xs.length) : ∀ j, j < xs[k].cells.length → (chC xs)[k * 4 + j]? = xs[k].cells[j]? := fun j hj => chC_get hk (by simpa [Ch.cells] using hj)

set_option maxRecDepth 100000 in
set_option maxHeartbeats 1600000 in
theorem copied_ch (w : World) (A : Option Addr) (c : Nat) (cs : List Ch) (m : Ch) (hl : cs.length ≤ 1000000) (hb : Cs w A cs) :
    Calls Tryd.prog 53 #[.slice A cs.length c, .agg #[.string m.k, .int .u32 (m.va : Int), .int .u8 (m.ki : Int), .string m.v]] w fun e w' =>
      e = .returned (.slice (some ⟨w.heap.size + 1, 0, none⟩) cs.length (cs.length + 2)) ∧ Blk w' (w.heap.size + 1) 51 (chC (cs ++ [m, m])).toArray ∧ Below w.heap.size w w' := by
  obtain ⟨n, hn⟩ : ∃ n, cs.length = n := ⟨_, rfl⟩
  obtain ⟨zs, hzl, hmk⟩ := make_rows (P := Tryd.prog) Tryd.underlying24 chInfo (n + 2) ((n : Int) + 2) (by omega) (by omega) (by omega)
  obtain ⟨xs, hxs⟩ : ∃ xs, cs ++ [m, m] = xs := ⟨_, rfl⟩
  have hxl : xs.length = n + 2 := by rw [← hxs, List.length_append, hn]; rfl
  have hXl : (chC xs).length = zs.length := by rw [chC_length, hxl, hzl]
  have hbox := Blk.new w 51 #[.string m.k, .int .u32 (m.va : Int), .int .u8 (m.ki : Int), .string m.v]
  have hb0 := (Below.refl w.heap.size w).alloc (Nat.le_refl _) (.cells #[.string m.k, .int .u32 (m.va : Int), .int .u8 (m.ki : Int), .string m.v] 51)
  rw [hn]
  rw [hn] at hl
  rw [hxs]
  replace hn := Lib.hid hn
  replace hxs := Lib.hid hxs
  replace hzl := Lib.hid hzl
  replace hxl := Lib.hid hxl
  replace hXl := Lib.hid hXl
  go_enter Tryd.func53, Tryd.ntmps53
  go_wp2
  clear hmk
  go_loopw [6] (fun i wr => ∃ k : Nat, k ≤ n + 2 ∧ i = .int .i64 (k : Int) ∧ Blk wr w.heap.size 51 #[.string m.k, .int .u32 (m.va : Int), .int .u8 (m.ki : Int), .string m.v] ∧ Blk wr (w.heap.size + 1) 51 (fillR (chC xs) zs (k * 4)) ∧ Below w.heap.size w wr) (fun i _ => n + 2 - (intOf i).toNat)
  case atStart => exact ⟨0, by omega, rfl, hbox.alloc _, by rw [Nat.zero_mul, fillR_zero]; have := Blk.new (w.alloc (.cells #[.string m.k, .int .u32 (m.va : Int), .int .u8 (m.ki : Int), .string m.v] 51)) 51 zs.toArray; rwa [World.size_alloc] at this, hb0.alloc (by simp) _⟩
  case round =>
    obtain ⟨k, hk, rfl, kbx, kr, hB⟩ := hrel
    clear hbox hb0
    have hsz : (fillR (chC xs) zs (k * 4)).size = (n + 2) * 4 := by rw [fillR_size _ _ hXl.out, chC_length, hxl.out]
    by_cases hlt : k < n + 2
    · have hth : wr.there (w.heap.size + 1) (k * 4) (#[.string m.k, .int .u32 (m.va : Int), .int .u8 (m.ki : Int), .string m.v] : Array Value).size := kr.there (k * 4) 4 (by omega)
      have hone : (#[.string m.k, .int .u32 (m.va : Int), .int .u8 (m.ki : Int), .string m.v] : Array Value).all (·.oneCell') = true := ch_one _ _ _ _
      have hinf : (Tryd.prog.info? 51).map (·.size) = some (#[.string m.k, .int .u32 (m.va : Int), .int .u8 (m.ki : Int), .string m.v] : Array Value).size := by kernel_rfl
      have cb := kbx.cell
      have hkx : k < xs.length := by rw [hxl.out]; exact hlt
      replace hsz := Lib.hid hsz
      replace hkx := Lib.hid hkx
      replace hth := Lib.hid hth
      replace hone := Lib.hid hone
      replace hinf := Lib.hid hinf
      obtain ⟨w1, hw1⟩ : ∃ w1, wr.setCells (w.heap.size + 1) (k * 4) (#[.string m.k, .int .u32 (m.va : Int), .int .u8 (m.ki : Int), .string m.v] : Array Value).toList = w1 := ⟨_, rfl⟩
      have kr1 := kr.setCells (#[.string m.k, .int .u32 (m.va : Int), .int .u8 (m.ki : Int), .string m.v] : Array Value).toList (k * 4)
      have kbx1 := kbx.setCells_far (by omega : w.heap.size ≠ w.heap.size + 1) (#[.string m.k, .int .u32 (m.va : Int), .int .u8 (m.ki : Int), .string m.v] : Array Value).toList (k * 4)
      have hB1 := below_setCells (by omega : w.heap.size ≤ w.heap.size + 1) (#[.string m.k, .int .u32 (m.va : Int), .int .u8 (m.ki : Int), .string m.v] : Array Value).toList hB (k * 4)
      rw [hw1] at kr1 kbx1 hB1
      replace hw1 := Lib.hid hw1
      by_cases hlt2 : k < n
      · obtain ⟨b, off, rfl, hblt, hc⟩ := (hb.below hB1).at_ (i := k) (by rw [hn.out]; exact hlt2)
        obtain ⟨e0, e1, e2, e3⟩ := hc k (by rw [hn.out]; exact hlt2)
        obtain ⟨x, hx⟩ : ∃ x, cs[k]'(by rw [hn.out]; exact hlt2) = x := ⟨_, rfl⟩
        have hxk : xs[k]'hkx.out = x := by rw [← hx]; simp only [← hxs.out]; exact List.getElem_append_left _
        rw [hx] at e0 e1 e2 e3
        have hpart := chC_part xs k hkx.out
        rw [hxk] at hpart
        obtain ⟨xk, xva, xki, xv⟩ := x
        simp only at e0 e1 e2 e3
        have hth2 : w1.there (w.heap.size + 1) (k * 4) (#[.string xk, .int .u32 (xva : Int), .int .u8 (xki : Int), .string xv] : Array Value).size := kr1.there (k * 4) 4 (by rw [putAt_size, hsz.out]; omega)
        have hone2 : (#[.string xk, .int .u32 (xva : Int), .int .u8 (xki : Int), .string xv] : Array Value).all (·.oneCell') = true := ch_one _ _ _ _
        have hinf2 : (Tryd.prog.info? 51).map (·.size) = some (#[.string xk, .int .u32 (xva : Int), .int .u8 (xki : Int), .string xv] : Array Value).size := by kernel_rfl
        obtain ⟨w2, hw2⟩ : ∃ w2, w1.setCells (w.heap.size + 1) (k * 4) (#[.string xk, .int .u32 (xva : Int), .int .u8 (xki : Int), .string xv] : Array Value).toList = w2 := ⟨_, rfl⟩
        have kr2 := kr1.setCells (#[.string xk, .int .u32 (xva : Int), .int .u8 (xki : Int), .string xv] : Array Value).toList (k * 4)
        rw [putAt_put (fillR (chC xs) zs (k * 4)) (k * 4) (#[.string m.k, .int .u32 (m.va : Int), .int .u8 (m.ki : Int), .string m.v] : Array Value).toList (#[.string xk, .int .u32 (xva : Int), .int .u8 (xki : Int), .string xv] : Array Value).toList rfl (by rw [hsz.out]; show k * 4 + 4 ≤ _; omega), fillR_put _ _ hXl.out (k * 4) (#[.string xk, .int .u32 (xva : Int), .int .u8 (xki : Int), .string xv] : Array Value).toList (by rw [chC_length, hxl.out]; show k * 4 + 4 ≤ _; omega) hpart, show k * 4 + (#[.string xk, .int .u32 (xva : Int), .int .u8 (xki : Int), .string xv] : Array Value).toList.length = (k + 1) * 4 from (Nat.succ_mul k 4).symm] at kr2
        have kbx2 := kbx1.setCells_far (by omega : w.heap.size ≠ w.heap.size + 1) (#[.string xk, .int .u32 (xva : Int), .int .u8 (xki : Int), .string xv] : Array Value).toList (k * 4)
        have hB2 := below_setCells (by omega : w.heap.size ≤ w.heap.size + 1) (#[.string xk, .int .u32 (xva : Int), .int .u8 (xki : Int), .string xv] : Array Value).toList hB1 (k * 4)
        rw [hw2] at kr2 kbx2 hB2
        clear hpart hxk hx hc
        replace hth2 := Lib.hid hth2
        replace hone2 := Lib.hid hone2
        replace hinf2 := Lib.hid hinf2
        replace hw2 := Lib.hid hw2
        go_wp2_with (first
          | ((with_reducible refine wpList_store_mid rfl 51 (.tmp 20) (.tmp 19) rfl (w.heap.size + 1) (k * 4) #[.string m.k, .int .u32 (m.va : Int), .int .u8 (m.ki : Int), .string m.v] rfl rfl hth.out hinf.out hone.out ?_); rw [hw1.out])
          | ((with_reducible refine wpList_store_mid rfl 51 (.tmp 31) (.tmp 30) rfl (w.heap.size + 1) (k * 4) #[.string xk, .int .u32 (xva : Int), .int .u8 (xki : Int), .string xv] rfl rfl hth2.out hinf2.out hone2.out ?_); rw [hw2.out]))
        go_roundw
        case rel => exact ⟨k + 1, by omega, by go_num, kbx2, kr2, hB2⟩
        case measure => simp [intOf]; omega
      · have hxk : xs[k]'hkx.out = m := by
          simp only [← hxs.out]
          rw [List.getElem_append_right (by rw [hn.out]; omega)]
          have : k - cs.length = 0 ∨ k - cs.length = 1 := by rw [hn.out]; omega
          rcases this with h | h <;> simp [h]
        have hpart := chC_part xs k hkx.out
        rw [hxk] at hpart
        have kr2 := kr1
        rw [fillR_put _ _ hXl.out (k * 4) (#[.string m.k, .int .u32 (m.va : Int), .int .u8 (m.ki : Int), .string m.v] : Array Value).toList (by rw [chC_length, hxl.out]; show k * 4 + 4 ≤ _; omega) hpart, show k * 4 + (#[.string m.k, .int .u32 (m.va : Int), .int .u8 (m.ki : Int), .string m.v] : Array Value).toList.length = (k + 1) * 4 from (Nat.succ_mul k 4).symm] at kr2
        clear hpart hxk
        go_wp2_with ((with_reducible refine wpList_store_mid rfl 51 (.tmp 20) (.tmp 19) rfl (w.heap.size + 1) (k * 4) #[.string m.k, .int .u32 (m.va : Int), .int .u8 (m.ki : Int), .string m.v] rfl rfl hth.out hinf.out hone.out ?_); rw [hw1.out])
        go_roundw
        case rel => exact ⟨k + 1, by omega, by go_num, kbx1, kr2, hB1⟩
        case measure => simp [intOf]; omega
    · have hk2 : k * 4 = (n + 2) * 4 := by omega
      rw [hk2, fillR_end _ _ _ (by rw [chC_length, hxl.out]; exact Nat.le_refl _) (by rw [hzl.out]; exact Nat.le_refl _)] at kr
      clear hk2 hsz
      have hlt' : ¬ ((k : Int) < (n : Int) + 2) := by omega
      go_wp2
      go_ret
      exact ⟨rfl, kr, hB⟩

def mkCh : Ch := ⟨⟨#[63, 33]⟩, 0, 0, ⟨#[]⟩⟩
set_option maxHeartbeats 400000 in
theorem twinCh_any (w : World) (A : Option Addr) (n c : Nat) (cs : List Ch) (hn : cs.length = n) (hl : n ≤ 1000000) (hb : Cs w A cs) :
    Calls Tryd.prog 27 #[.slice A n c] w fun e w' =>
      e = .returned (.slice (some ⟨w.heap.size + 1, 0, none⟩) n (n + 2)) ∧ Blk w' (w.heap.size + 1) 51 (chC (cs ++ [mkCh, mkCh])).toArray ∧ Below w.heap.size w w' := by
  subst hn
  have cp := copied_ch w A c cs mkCh hl hb
  simp only [mkCh] at cp
  go_enter Tryd.func27, Tryd.ntmps27
  go_wp2_with fail
  refine cp.mono ?_
  clear cp
  rintro e w1 ⟨rfl, h1, h2⟩
  go_wp2
  go_ret
  exact ⟨rfl, h1, h2⟩

set_option maxRecDepth 100000 in
set_option maxHeartbeats 1600000 in
theorem kept_ch (w : World) (g : Nat) (A : Option Addr) (n c : Nat) (cs : List Ch) (m : Ch) (hn : cs.length = n) (hl : n ≤ 1000000) (hb : Cs w A cs) (hg : Blk w g 51 (chC (cs ++ [m, m])).toArray) :
    Calls Tryd.prog 59 #[.slice (some ⟨g, 0, none⟩) n (n + 2), .slice A n c, .agg #[.string m.k, .int .u32 (m.va : Int), .int .u8 (m.ki : Int), .string m.v]] w fun e w' =>
      e = .returned (.bool true) ∧ Below w.heap.size w w' := by
  obtain ⟨xs, hxs⟩ : ∃ xs, cs ++ [m, m] = xs := ⟨_, rfl⟩
  have hxl : xs.length = n + 2 := by rw [← hxs, List.length_append, hn]; rfl
  rw [hxs] at hg
  have hgd : Tryd.prog.eqGuardType Tryd.prog.depth 51 = false := by kernel_rfl
  have kbx := Blk.new w 51 #[.string m.k, .int .u32 (m.va : Int), .int .u8 (m.ki : Int), .string m.v]
  have hb0 := (Below.refl w.heap.size w).alloc (Nat.le_refl _) (.cells #[.string m.k, .int .u32 (m.va : Int), .int .u8 (m.ki : Int), .string m.v] 51)
  obtain ⟨W, hW⟩ : ∃ W, w.alloc (.cells #[.string m.k, .int .u32 (m.va : Int), .int .u8 (m.ki : Int), .string m.v] 51) = W := ⟨_, rfl⟩
  rw [hW] at kbx hb0
  replace hn := Lib.hid hn
  replace hxs := Lib.hid hxs
  replace hxl := Lib.hid hxl
  go_enter Tryd.func59, Tryd.ntmps59
  go_wp2
  replace hW := Lib.hid hW
  go_loopw [8] (fun i wr => ∃ k : Nat, k ≤ n + 2 ∧ i = .int .i64 (k : Int) ∧ Below W.heap.size W wr) (fun i _ => n + 2 - (intOf i).toNat)
  case atStart => exact ⟨0, by omega, rfl, Below.refl _ _⟩
  case round =>
    obtain ⟨k, hk, rfl, hbel⟩ := hrel
    have hBw := hb0.trans (hbel.mono hb0.size)
    by_cases hlt : k < n + 2
    · have hkx : k < xs.length := by rw [hxl.out]; exact hlt
      have hgr := hg.below hBw hg.lt
      have ht : ∀ j, j < 4 → wr.cell? ⟨g, k * 4 + j, none⟩ = (xs[k]).cells[j]? := fun j hj => by
        rw [hgr.cell]
        simp only [List.getElem?_toArray]
        exact chC_get hkx hj
      have t0 := ht 0 (by omega)
      have t1 := ht 1 (by omega)
      have t2 := ht 2 (by omega)
      have t3 := ht 3 (by omega)
      rw [Nat.add_zero] at t0
      by_cases hlt2 : k < n
      · obtain ⟨b, off, rfl, hblt, hc⟩ := (hb.below hBw).at_ (i := k) (by rw [hn.out]; exact hlt2)
        obtain ⟨e0, e1, e2, e3⟩ := hc k (by rw [hn.out]; exact hlt2)
        obtain ⟨x, hx⟩ : ∃ x, cs[k]'(by rw [hn.out]; exact hlt2) = x := ⟨_, rfl⟩
        have hxk : xs[k]'hkx = x := by rw [← hx]; simp only [← hxs.out]; exact List.getElem_append_left _
        rw [hx] at e0 e1 e2 e3
        rw [hxk] at t0 t1 t2 t3
        obtain ⟨xk, xva, xki, xv⟩ := x
        simp only at e0 e1 e2 e3
        replace t0 : wr.cell? ⟨g, k * 4, none⟩ = some (.string xk) := t0
        replace t1 : wr.cell? ⟨g, k * 4 + 1, none⟩ = some (.int .u32 (xva : Int)) := t1
        replace t2 : wr.cell? ⟨g, k * 4 + 2, none⟩ = some (.int .u8 (xki : Int)) := t2
        replace t3 : wr.cell? ⟨g, k * 4 + 3, none⟩ = some (.string xv) := t3
        have heq := fun W => ch_refl W xk xv (xva : Int) (xki : Int)
        have hd : decide (k < n) = true := decide_eq_true hlt2
        have hd2 : decide (n ≤ k) = false := decide_eq_false (by omega)
        clear hc hx hxk ht hkx hgr hg
        go_wp2
        go_quiet (fail)
        go_wp2
        go_roundw
        case rel => exact ⟨k + 1, by omega, by go_num, below_drewN hbel _⟩
        case measure => simp [intOf]; omega
      · have hxk : xs[k]'hkx = m := by
          simp only [← hxs.out]
          rw [List.getElem_append_right (by rw [hn.out]; omega)]
          have : k - cs.length = 0 ∨ k - cs.length = 1 := by rw [hn.out]; omega
          rcases this with h | h <;> simp [h]
        rw [hxk] at t0 t1 t2 t3
        have mb := (kbx.below hbel kbx.lt).cell
        obtain ⟨xk, xva, xki, xv⟩ := m
        simp only at mb
        replace t0 : wr.cell? ⟨g, k * 4, none⟩ = some (.string xk) := t0
        replace t1 : wr.cell? ⟨g, k * 4 + 1, none⟩ = some (.int .u32 (xva : Int)) := t1
        replace t2 : wr.cell? ⟨g, k * 4 + 2, none⟩ = some (.int .u8 (xki : Int)) := t2
        replace t3 : wr.cell? ⟨g, k * 4 + 3, none⟩ = some (.string xv) := t3
        have heq := fun W => ch_refl W xk xv (xva : Int) (xki : Int)
        have hd : decide (k < n) = false := decide_eq_false hlt2
        have hd2 : decide (n ≤ k) = true := decide_eq_true (by omega)
        clear hxk ht hkx hgr hg
        go_wp2
        go_quiet (fail)
        go_wp2
        go_roundw
        case rel => exact ⟨k + 1, by omega, by go_num, below_drewN hbel _⟩
        case measure => simp [intOf]; omega
    · have hlt' : ¬ ((k : Int) < (n : Int) + 2) := by omega
      go_wp2
      go_ret
      exact ⟨rfl, hBw⟩
set_option maxHeartbeats 400000 in
theorem leftCh_any (w : World) (g : Nat) (A : Option Addr) (n c : Nat) (cs : List Ch) (hn : cs.length = n) (hl : n ≤ 1000000) (hb : Cs w A cs) (hg : Blk w g 51 (chC (cs ++ [mkCh, mkCh])).toArray) :
    Calls Tryd.prog 39 #[.slice (some ⟨g, 0, none⟩) n (n + 2), .slice A n c] w fun e w' =>
      e = .returned (.bool true) ∧ Below w.heap.size w w' := by
  have cp := kept_ch w g A n c cs mkCh hn hl hb hg
  simp only [mkCh] at cp
  replace hn := Lib.hid hn
  replace hg := Lib.hid hg
  go_enter Tryd.func39, Tryd.ntmps39
  go_wp2_with fail
  refine cp.mono ?_
  clear cp
  rintro e w1 ⟨rfl, h1⟩
  go_wp2
  go_ret
  exact ⟨rfl, h1⟩

set_option maxHeartbeats 800000 in
theorem twinOp_any (w : World) (kind : Int) (br ot : ByteArray) (pl : Int) (A : Option Addr) (n c : Nat) (cs : List Ch) (hn : cs.length = n) (hl : n ≤ 1000000) (hb : Cs w A cs) :
    Calls Tryd.prog 11 #[.agg #[.int .u8 kind, .string br, .string ot, .int .u64 pl, .slice A n c]] w fun e w' =>
      ∃ g, e = .returned (.agg #[.int .u8 kind, .string br, .string ot, .int .u64 pl, .slice (some ⟨g, 0, none⟩) n (n + 2)]) ∧ Blk w' g 51 (chC (cs ++ [mkCh, mkCh])).toArray ∧ w.heap.size ≤ g ∧ Below w.heap.size w w' := by
  have k0 := (Blk.new w 26 #[.int .u8 kind, .string br, .string ot, .int .u64 pl, .slice A n c]).alloc (.cells #[.int .u8 0, .string ⟨#[]⟩, .string ⟨#[]⟩, .int .u64 0, .slice none 0 0] 26)
  have k1 := Blk.new (w.alloc (.cells #[.int .u8 kind, .string br, .string ot, .int .u64 pl, .slice A n c] 26)) 26 #[.int .u8 0, .string ⟨#[]⟩, .string ⟨#[]⟩, .int .u64 0, .slice none 0 0]
  rw [World.size_alloc] at k1
  have hb0 := ((Below.refl w.heap.size w).alloc (Nat.le_refl _) (.cells #[.int .u8 kind, .string br, .string ot, .int .u64 pl, .slice A n c] 26)).alloc (by simp) (.cells #[.int .u8 0, .string ⟨#[]⟩, .string ⟨#[]⟩, .int .u64 0, .slice none 0 0] 26)
  obtain ⟨W, hW⟩ : ∃ W, (w.alloc (.cells #[.int .u8 kind, .string br, .string ot, .int .u64 pl, .slice A n c] 26)).alloc (.cells #[.int .u8 0, .string ⟨#[]⟩, .string ⟨#[]⟩, .int .u64 0, .slice none 0 0] 26) = W := ⟨_, rfl⟩
  have hWs : w.heap.size + 2 = W.heap.size := by rw [← hW]; simp
  rw [hW] at k0 k1 hb0
  have cp := twinCh_any W A n c cs hn hl (hb.below hb0)
  have c0 := k0.cell
  replace hn := Lib.hid hn
  replace hWs := Lib.hid hWs
  go_enter Tryd.func11, Tryd.ntmps11
  go_wp2_with fail
  refine cp.mono ?_
  clear cp c0
  rintro e w1 ⟨rfl, h1, h2⟩
  have k0' := k0.below h2 k0.lt
  have k1' := k1.below h2 k1.lt
  have c0 := k0'.cell
  have c1 := k1'.cell
  have f0 := k0'.frozen
  have f1 := k1'.frozen
  have hs := hWs.out
  have h2s := h2.size
  go_wp2
  have kz := (((((k1'.far (p := ⟨w.heap.size, 4, none⟩) (by simp) (.slice (some ⟨W.heap.size + 1, 0, none⟩) n (n + 2))).store 0 (.int .u8 kind)).store 1 (.string br)).store 2 (.string ot)).store 3 (.int .u64 pl)).store 4 (.slice (some ⟨W.heap.size + 1, 0, none⟩) n (n + 2))
  have hz : Below w.heap.size w _ := (((((((hb0.trans (h2.mono (by omega))).setCell (p := ⟨w.heap.size, 4, none⟩) (Nat.le_refl _) (.slice (some ⟨W.heap.size + 1, 0, none⟩) n (n + 2))).setCell (p := ⟨w.heap.size + 1, 0, none⟩) (by simp) (.int .u8 kind)).setCell (p := ⟨w.heap.size + 1, 1, none⟩) (by simp) (.string br)).setCell (p := ⟨w.heap.size + 1, 2, none⟩) (by simp) (.string ot)).setCell (p := ⟨w.heap.size + 1, 3, none⟩) (by simp) (.int .u64 pl)).setCell (p := ⟨w.heap.size + 1, 4, none⟩) (by simp) (.slice (some ⟨W.heap.size + 1, 0, none⟩) n (n + 2)))
  have h1z := (((((h1.far (p := ⟨w.heap.size, 4, none⟩) (by simp; omega) (.slice (some ⟨W.heap.size + 1, 0, none⟩) n (n + 2))).far (p := ⟨w.heap.size + 1, 0, none⟩) (by simp; omega) (.int .u8 kind)).far (p := ⟨w.heap.size + 1, 1, none⟩) (by simp; omega) (.string br)).far (p := ⟨w.heap.size + 1, 2, none⟩) (by simp; omega) (.string ot)).far (p := ⟨w.heap.size + 1, 3, none⟩) (by simp; omega) (.int .u64 pl)).far (p := ⟨w.heap.size + 1, 4, none⟩) (by simp; omega) (.slice (some ⟨W.heap.size + 1, 0, none⟩) n (n + 2))
  exact bodyPost_ret (results_blk rfl _ (w.heap.size + 1) rfl kz Tryd.underlying26 rfl opSz) rfl ⟨W.heap.size + 1, rfl, h1z, by omega, hz⟩
set_option maxHeartbeats 800000 in
theorem leftOp_any (w : World) (kind : Int) (br ot : ByteArray) (pl : Int) (g : Nat) (A : Option Addr) (n c : Nat) (cs : List Ch) (hn : cs.length = n) (hl : n ≤ 1000000) (hb : Cs w A cs) (hg : Blk w g 51 (chC (cs ++ [mkCh, mkCh])).toArray) :
    Calls Tryd.prog 17 #[.agg #[.int .u8 kind, .string br, .string ot, .int .u64 pl, .slice (some ⟨g, 0, none⟩) n (n + 2)], .agg #[.int .u8 kind, .string br, .string ot, .int .u64 pl, .slice A n c]] w fun e w' =>
      e = .returned (.bool true) ∧ Below w.heap.size w w' := by
  have hgt : Cs w (some ⟨g, 0, none⟩) cs := by
    refine hg.rd (by rw [chC_length]) (fun j u hu => ?_)
    rw [Nat.zero_add, List.getElem?_toArray, chC_append, List.getElem?_append_left (by have := (List.getElem?_eq_some_iff.1 hu).1; exact this)]
    exact hu
  have k0 := (Blk.new w 26 #[.int .u8 kind, .string br, .string ot, .int .u64 pl, .slice (some ⟨g, 0, none⟩) n (n + 2)]).alloc (.cells #[.int .u8 kind, .string br, .string ot, .int .u64 pl, .slice A n c] 26)
  have k1 := Blk.new (w.alloc (.cells #[.int .u8 kind, .string br, .string ot, .int .u64 pl, .slice (some ⟨g, 0, none⟩) n (n + 2)] 26)) 26 #[.int .u8 kind, .string br, .string ot, .int .u64 pl, .slice A n c]
  rw [World.size_alloc] at k1
  have hb0 := ((Below.refl w.heap.size w).alloc (Nat.le_refl _) (.cells #[.int .u8 kind, .string br, .string ot, .int .u64 pl, .slice (some ⟨g, 0, none⟩) n (n + 2)] 26)).alloc (by simp) (.cells #[.int .u8 kind, .string br, .string ot, .int .u64 pl, .slice A n c] 26)
  obtain ⟨W, hW⟩ : ∃ W, (w.alloc (.cells #[.int .u8 kind, .string br, .string ot, .int .u64 pl, .slice (some ⟨g, 0, none⟩) n (n + 2)] 26)).alloc (.cells #[.int .u8 kind, .string br, .string ot, .int .u64 pl, .slice A n c] 26) = W := ⟨_, rfl⟩
  rw [hW] at k0 k1 hb0
  have cs1 := sameOp_yes W kind br ot pl (some ⟨g, 0, none⟩) A n (n + 2) c cs hn (by omega) (hgt.below hb0) (hb.below hb0)
  have c0 := k0.cell
  have c1 := k1.cell
  have hgW := hg.below hb0 hg.lt
  have hbW := hb.below hb0
  replace hn := Lib.hid hn
  go_enter Tryd.func17, Tryd.ntmps17
  go_wp2_with fail
  refine cs1.mono ?_
  clear cs1 c0 c1
  rintro e w1 ⟨rfl, h2⟩
  have c0 := (k0.below h2 k0.lt).cell
  have c1 := (k1.below h2 k1.lt).cell
  have hB1 := hb0.trans (h2.mono hb0.size)
  go_wp2_with fail
  refine (leftCh_any w1 g A n c cs hn.out hl (hbW.below h2) (hgW.below h2 hgW.lt)).mono ?_
  rintro e w2 ⟨rfl, h3⟩
  go_wp2
  go_ret
  exact ⟨rfl, hB1.trans (h3.mono hB1.size)⟩
end Go.Proofs.YtccbldlnfaiphaaDoor
