/- The walk of TwinFacts. -/
import Derived.Test.YtnlmchbigpjamaaJnColl
import Derived.Test.YtnlmchbigpjamaaRowS
set_option linter.unusedSimpArgs false
set_option linter.unusedVariables false
namespace Go.Proofs.Ytnlmchbigpjamaa
open Go Go.RowKit Herb Herb.Jn
theorem ft_one (k v : ByteArray) (a b c d : Int) : (#[.string k, .int .u32 a, .int .u64 b, .int .u64 c, .int .u8 d, .string v] : Array Value).all (·.oneCell') = true := by simp [Value.oneCell', Value.cells]
theorem ftC_part (xs : List Ft) (k : Nat) (hk : k < xs.length) : ∀ j, j < xs[k].cells.length → (ftC xs)[k * 6 + j]? = xs[k].cells[j]? := fun j hj => ftC_get hk (by simpa [Ft.cells] using hj)

set_option maxRecDepth 100000 in
set_option maxHeartbeats 1600000 in
theorem copied_ft (w : World) (A : Option Addr) (c : Nat) (cs : List Ft) (m : Ft) (hl : cs.length ≤ 1000000) (hb : Fs w A cs) :
    Calls Try.prog 19 #[.slice A cs.length c, .agg #[.string m.k, .int .u32 (m.va : Int), .int .u64 (m.se : Int), .int .u64 (m.li : Int), .int .u8 (m.ki : Int), .string m.v]] w fun e w' =>
      e = .returned (.slice (some ⟨w.heap.size + 1, 0, none⟩) cs.length (cs.length + 2)) ∧ Blk w' (w.heap.size + 1) 44 (ftC (cs ++ [m, m])).toArray ∧ Below w.heap.size w w' := by
  obtain ⟨n, hn⟩ : ∃ n, cs.length = n := ⟨_, rfl⟩
  obtain ⟨zs, hzl, hmk⟩ := make_rows (P := Try.prog) Try.underlying26 ftInfo (n + 2) ((n : Int) + 2) (by omega) (by omega) (by omega)
  obtain ⟨xs, hxs⟩ : ∃ xs, cs ++ [m, m] = xs := ⟨_, rfl⟩
  have hxl : xs.length = n + 2 := by rw [← hxs, List.length_append, hn]; rfl
  have hXl : (ftC xs).length = zs.length := by rw [ftC_length, hxl, hzl]
  have hbox := Blk.new w 44 #[.string m.k, .int .u32 (m.va : Int), .int .u64 (m.se : Int), .int .u64 (m.li : Int), .int .u8 (m.ki : Int), .string m.v]
  have hb0 := (Below.refl w.heap.size w).alloc (Nat.le_refl _) (.cells #[.string m.k, .int .u32 (m.va : Int), .int .u64 (m.se : Int), .int .u64 (m.li : Int), .int .u8 (m.ki : Int), .string m.v] 44)
  rw [hn]
  rw [hn] at hl
  rw [hxs]
  replace hn := Lib.hid hn
  replace hxs := Lib.hid hxs
  replace hzl := Lib.hid hzl
  replace hxl := Lib.hid hxl
  replace hXl := Lib.hid hXl
  go_enter Try.func19, Try.ntmps19
  go_wp2
  clear hmk
  go_loopw [6] (fun i wr => ∃ k : Nat, k ≤ n + 2 ∧ i = .int .i64 (k : Int) ∧ Blk wr w.heap.size 44 #[.string m.k, .int .u32 (m.va : Int), .int .u64 (m.se : Int), .int .u64 (m.li : Int), .int .u8 (m.ki : Int), .string m.v] ∧ Blk wr (w.heap.size + 1) 44 (fillR (ftC xs) zs (k * 6)) ∧ Below w.heap.size w wr) (fun i _ => n + 2 - (intOf i).toNat)
  case atStart => exact ⟨0, by omega, rfl, hbox.alloc _, by rw [Nat.zero_mul, fillR_zero]; have := Blk.new (w.alloc (.cells #[.string m.k, .int .u32 (m.va : Int), .int .u64 (m.se : Int), .int .u64 (m.li : Int), .int .u8 (m.ki : Int), .string m.v] 44)) 44 zs.toArray; rwa [World.size_alloc] at this, hb0.alloc (by simp) _⟩
  case round =>
    obtain ⟨k, hk, rfl, kbx, kr, hB⟩ := hrel
    clear hbox hb0
    have hsz : (fillR (ftC xs) zs (k * 6)).size = (n + 2) * 6 := by rw [fillR_size _ _ hXl.out, ftC_length, hxl.out]
    by_cases hlt : k < n + 2
    · have hth : wr.there (w.heap.size + 1) (k * 6) (#[.string m.k, .int .u32 (m.va : Int), .int .u64 (m.se : Int), .int .u64 (m.li : Int), .int .u8 (m.ki : Int), .string m.v] : Array Value).size := kr.there (k * 6) 6 (by omega)
      have hone : (#[.string m.k, .int .u32 (m.va : Int), .int .u64 (m.se : Int), .int .u64 (m.li : Int), .int .u8 (m.ki : Int), .string m.v] : Array Value).all (·.oneCell') = true := ft_one _ _ _ _ _ _
      have hinf : (Try.prog.info? 44).map (·.size) = some (#[.string m.k, .int .u32 (m.va : Int), .int .u64 (m.se : Int), .int .u64 (m.li : Int), .int .u8 (m.ki : Int), .string m.v] : Array Value).size := by kernel_rfl
      have cb := kbx.cell
      have hkx : k < xs.length := by rw [hxl.out]; exact hlt
      replace hsz := Lib.hid hsz
      replace hkx := Lib.hid hkx
      replace hth := Lib.hid hth
      replace hone := Lib.hid hone
      replace hinf := Lib.hid hinf
      obtain ⟨w1, hw1⟩ : ∃ w1, wr.setCells (w.heap.size + 1) (k * 6) (#[.string m.k, .int .u32 (m.va : Int), .int .u64 (m.se : Int), .int .u64 (m.li : Int), .int .u8 (m.ki : Int), .string m.v] : Array Value).toList = w1 := ⟨_, rfl⟩
      have kr1 := kr.setCells (#[.string m.k, .int .u32 (m.va : Int), .int .u64 (m.se : Int), .int .u64 (m.li : Int), .int .u8 (m.ki : Int), .string m.v] : Array Value).toList (k * 6)
      have kbx1 := kbx.setCells_far (by omega : w.heap.size ≠ w.heap.size + 1) (#[.string m.k, .int .u32 (m.va : Int), .int .u64 (m.se : Int), .int .u64 (m.li : Int), .int .u8 (m.ki : Int), .string m.v] : Array Value).toList (k * 6)
      have hB1 := below_setCells (by omega : w.heap.size ≤ w.heap.size + 1) (#[.string m.k, .int .u32 (m.va : Int), .int .u64 (m.se : Int), .int .u64 (m.li : Int), .int .u8 (m.ki : Int), .string m.v] : Array Value).toList hB (k * 6)
      rw [hw1] at kr1 kbx1 hB1
      replace hw1 := Lib.hid hw1
      by_cases hlt2 : k < n
      · obtain ⟨b, off, rfl, hblt, hc⟩ := (hb.below hB1).at_ (i := k) (by rw [hn.out]; exact hlt2)
        obtain ⟨e0, e1, e2, e3, e4, e5⟩ := hc k (by rw [hn.out]; exact hlt2)
        obtain ⟨x, hx⟩ : ∃ x, cs[k]'(by rw [hn.out]; exact hlt2) = x := ⟨_, rfl⟩
        have hxk : xs[k]'hkx.out = x := by rw [← hx]; simp only [← hxs.out]; exact List.getElem_append_left _
        rw [hx] at e0 e1 e2 e3 e4 e5
        have hpart := ftC_part xs k hkx.out
        rw [hxk] at hpart
        obtain ⟨xk, xva, xse, xli, xki, xv⟩ := x
        simp only at e0 e1 e2 e3 e4 e5
        have hth2 : w1.there (w.heap.size + 1) (k * 6) (#[.string xk, .int .u32 (xva : Int), .int .u64 (xse : Int), .int .u64 (xli : Int), .int .u8 (xki : Int), .string xv] : Array Value).size := kr1.there (k * 6) 6 (by rw [putAt_size, hsz.out]; omega)
        have hone2 : (#[.string xk, .int .u32 (xva : Int), .int .u64 (xse : Int), .int .u64 (xli : Int), .int .u8 (xki : Int), .string xv] : Array Value).all (·.oneCell') = true := ft_one _ _ _ _ _ _
        have hinf2 : (Try.prog.info? 44).map (·.size) = some (#[.string xk, .int .u32 (xva : Int), .int .u64 (xse : Int), .int .u64 (xli : Int), .int .u8 (xki : Int), .string xv] : Array Value).size := by kernel_rfl
        obtain ⟨w2, hw2⟩ : ∃ w2, w1.setCells (w.heap.size + 1) (k * 6) (#[.string xk, .int .u32 (xva : Int), .int .u64 (xse : Int), .int .u64 (xli : Int), .int .u8 (xki : Int), .string xv] : Array Value).toList = w2 := ⟨_, rfl⟩
        have kr2 := kr1.setCells (#[.string xk, .int .u32 (xva : Int), .int .u64 (xse : Int), .int .u64 (xli : Int), .int .u8 (xki : Int), .string xv] : Array Value).toList (k * 6)
        rw [putAt_put (fillR (ftC xs) zs (k * 6)) (k * 6) (#[.string m.k, .int .u32 (m.va : Int), .int .u64 (m.se : Int), .int .u64 (m.li : Int), .int .u8 (m.ki : Int), .string m.v] : Array Value).toList (#[.string xk, .int .u32 (xva : Int), .int .u64 (xse : Int), .int .u64 (xli : Int), .int .u8 (xki : Int), .string xv] : Array Value).toList rfl (by rw [hsz.out]; show k * 6 + 6 ≤ _; omega), fillR_put _ _ hXl.out (k * 6) (#[.string xk, .int .u32 (xva : Int), .int .u64 (xse : Int), .int .u64 (xli : Int), .int .u8 (xki : Int), .string xv] : Array Value).toList (by rw [ftC_length, hxl.out]; show k * 6 + 6 ≤ _; omega) hpart, show k * 6 + (#[.string xk, .int .u32 (xva : Int), .int .u64 (xse : Int), .int .u64 (xli : Int), .int .u8 (xki : Int), .string xv] : Array Value).toList.length = (k + 1) * 6 from (Nat.succ_mul k 6).symm] at kr2
        have kbx2 := kbx1.setCells_far (by omega : w.heap.size ≠ w.heap.size + 1) (#[.string xk, .int .u32 (xva : Int), .int .u64 (xse : Int), .int .u64 (xli : Int), .int .u8 (xki : Int), .string xv] : Array Value).toList (k * 6)
        have hB2 := below_setCells (by omega : w.heap.size ≤ w.heap.size + 1) (#[.string xk, .int .u32 (xva : Int), .int .u64 (xse : Int), .int .u64 (xli : Int), .int .u8 (xki : Int), .string xv] : Array Value).toList hB1 (k * 6)
        rw [hw2] at kr2 kbx2 hB2
        clear hpart hxk hx hc
        replace hth2 := Lib.hid hth2
        replace hone2 := Lib.hid hone2
        replace hinf2 := Lib.hid hinf2
        replace hw2 := Lib.hid hw2
        go_wp2_with (first
          | ((with_reducible refine wpList_store_mid rfl 44 (.tmp 20) (.tmp 19) rfl (w.heap.size + 1) (k * 6) #[.string m.k, .int .u32 (m.va : Int), .int .u64 (m.se : Int), .int .u64 (m.li : Int), .int .u8 (m.ki : Int), .string m.v] rfl rfl hth.out hinf.out hone.out ?_); rw [hw1.out])
          | ((with_reducible refine wpList_store_mid rfl 44 (.tmp 31) (.tmp 30) rfl (w.heap.size + 1) (k * 6) #[.string xk, .int .u32 (xva : Int), .int .u64 (xse : Int), .int .u64 (xli : Int), .int .u8 (xki : Int), .string xv] rfl rfl hth2.out hinf2.out hone2.out ?_); rw [hw2.out]))
        go_roundw
        case rel => exact ⟨k + 1, by omega, by go_num, kbx2, kr2, hB2⟩
        case measure => simp [intOf]; omega
      · have hxk : xs[k]'hkx.out = m := by
          simp only [← hxs.out]
          rw [List.getElem_append_right (by rw [hn.out]; omega)]
          have : k - cs.length = 0 ∨ k - cs.length = 1 := by rw [hn.out]; omega
          rcases this with h | h <;> simp [h]
        have hpart := ftC_part xs k hkx.out
        rw [hxk] at hpart
        have kr2 := kr1
        rw [fillR_put _ _ hXl.out (k * 6) (#[.string m.k, .int .u32 (m.va : Int), .int .u64 (m.se : Int), .int .u64 (m.li : Int), .int .u8 (m.ki : Int), .string m.v] : Array Value).toList (by rw [ftC_length, hxl.out]; show k * 6 + 6 ≤ _; omega) hpart, show k * 6 + (#[.string m.k, .int .u32 (m.va : Int), .int .u64 (m.se : Int), .int .u64 (m.li : Int), .int .u8 (m.ki : Int), .string m.v] : Array Value).toList.length = (k + 1) * 6 from (Nat.succ_mul k 6).symm] at kr2
        clear hpart hxk
        go_wp2_with ((with_reducible refine wpList_store_mid rfl 44 (.tmp 20) (.tmp 19) rfl (w.heap.size + 1) (k * 6) #[.string m.k, .int .u32 (m.va : Int), .int .u64 (m.se : Int), .int .u64 (m.li : Int), .int .u8 (m.ki : Int), .string m.v] rfl rfl hth.out hinf.out hone.out ?_); rw [hw1.out])
        go_roundw
        case rel => exact ⟨k + 1, by omega, by go_num, kbx1, kr2, hB1⟩
        case measure => simp [intOf]; omega
    · have hk2 : k * 6 = (n + 2) * 6 := by omega
      rw [hk2, fillR_end _ _ _ (by rw [ftC_length, hxl.out]; exact Nat.le_refl _) (by rw [hzl.out]; exact Nat.le_refl _)] at kr
      clear hk2 hsz
      have hlt' : ¬ ((k : Int) < (n : Int) + 2) := by omega
      go_wp2
      go_ret
      exact ⟨rfl, kr, hB⟩

def mkFt : Ft := ⟨⟨#[63, 33]⟩, 0, 0, 0, 0, ⟨#[]⟩⟩
set_option maxHeartbeats 400000 in
theorem twinFt_any (w : World) (A : Option Addr) (n c : Nat) (cs : List Ft) (hn : cs.length = n) (hl : n ≤ 1000000) (hb : Fs w A cs) :
    Calls Try.prog 9 #[.slice A n c] w fun e w' =>
      e = .returned (.slice (some ⟨w.heap.size + 1, 0, none⟩) n (n + 2)) ∧ Blk w' (w.heap.size + 1) 44 (ftC (cs ++ [mkFt, mkFt])).toArray ∧ Below w.heap.size w w' := by
  subst hn
  have cp := copied_ft w A c cs mkFt hl hb
  simp only [mkFt] at cp
  go_enter Try.func9, Try.ntmps9
  go_wp2_with fail
  refine cp.mono ?_
  clear cp
  rintro e w1 ⟨rfl, h1, h2⟩
  go_wp2
  go_ret
  exact ⟨rfl, h1, h2⟩
end Go.Proofs.Ytnlmchbigpjamaa
