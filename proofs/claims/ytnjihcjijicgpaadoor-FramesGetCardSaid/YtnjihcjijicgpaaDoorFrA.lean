/- Walks of package frames, first part: left, many, sum, headOf, noughts, fits. -/
import Derived.Test.YtnjihcjijicgpaaDoorSums
import Derived.Test.YtnjihcjijicgpaaDoorEqB
import Derived.Test.YtnjihcjijicgpaaDoorFrLaw
import Derived.Test.YtnjihcjijicgpaaDoorApp
import Derived.Test.YtnjihcjijicgpaaDoorBlkOps
set_option linter.unusedSimpArgs false
set_option linter.unusedVariables false
namespace Go.Proofs.YtnjihcjijicgpaaDoor
open Go Go.RowKit Herb

theorem left_any (p : Int) (h0 : 0 ≤ p) (h1 : p ≤ 4611686018427387904) (w : World) : Calls Tryd.prog 17 #[.int .i64 p] w fun e w' => e = .returned (.int .i64 (256 - p % 256)) ∧ w = w' := by
  go_enter Tryd.func17, Tryd.ntmps17
  go_wp2
  go_ret
  exact ⟨rfl, rfl⟩

/-- A head as a value. -/
def hdV (c0 c1 c2 c3 c4 c5 c6 : UInt8) : Value := .agg #[.int .u8 (c0.toNat : Int), .int .u8 (c1.toNat : Int), .int .u8 (c2.toNat : Int), .int .u8 (c3.toNat : Int), .int .u8 (c4.toNat : Int), .int .u8 (c5.toNat : Int), .int .u8 (c6.toNat : Int)]

theorem or_bytes (a b : UInt8) : bits .or .i64 (a.toNat : Int) ((b.toNat : Int) * 256) = ((a.toNat + 256 * b.toNat : Nat) : Int) := by
  have ha := a.toNat_lt
  have hb := b.toNat_lt
  have e : a.toNat ||| b.toNat * 256 = a.toNat + 256 * b.toNat := by
    have := Nat.two_pow_add_eq_or_of_lt (i := 8) a.toNat_lt b.toNat
    rw [Nat.or_comm, Nat.mul_comm, show (256 : Nat) = 2 ^ 8 from rfl, ← this]
    omega
  have h : bits .or .i64 ((a.toNat : Nat) : Int) ((b.toNat * 256 : Nat) : Int) = ((a.toNat ||| b.toNat * 256 : Nat) : Int) := by
    have hx : a.toNat ||| b.toNat * 256 < 2 ^ 64 := Nat.or_lt_two_pow (by omega) (by omega)
    show IntKind.i64.wrap ((BitVec.ofInt 64 ((a.toNat : Nat) : Int) ||| BitVec.ofInt 64 ((b.toNat * 256 : Nat) : Int)).toNat : Int) = _
    rw [BitVec.toNat_or, ofInt_u64 _ (by omega), ofInt_u64 _ (by omega), IntKind.wrap_i64]
    omega
  rw [e] at h
  rw [← h]
  congr 1

theorem many_any (c0 c1 c2 c3 c4 c5 c6 : UInt8) (w : World) : Calls Tryd.prog 28 #[.agg #[.int .u8 (c0.toNat : Int), .int .u8 (c1.toNat : Int), .int .u8 (c2.toNat : Int), .int .u8 (c3.toNat : Int), .int .u8 (c4.toNat : Int), .int .u8 (c5.toNat : Int), .int .u8 (c6.toNat : Int)]] w
    fun e w' => e = .returned (.int .i64 ((c4.toNat + 256 * c5.toNat : Nat) : Int)) ∧ Below w.heap.size w w' := by
  have hor := or_bytes c4 c5
  have h4 := byte_lt c4
  have h5 := byte_lt c5
  go_enter Tryd.func28, Tryd.ntmps28
  go_wp2
  go_ret
  exact ⟨by congr 2, (Below.refl _ _).alloc (Nat.le_refl _) _⟩

theorem sum_any (c0 c1 c2 c3 c4 c5 c6 : UInt8) (A : Option Addr) (n c : Nat) (l : List UInt8) (hl : l.length = n) (hn : n ≤ 1000000) (w : World) (hb : Bs w A l) : Calls Tryd.prog 29 #[.agg #[.int .u8 (c0.toNat : Int), .int .u8 (c1.toNat : Int), .int .u8 (c2.toNat : Int), .int .u8 (c3.toNat : Int), .int .u8 (c4.toNat : Int), .int .u8 (c5.toNat : Int), .int .u8 (c6.toNat : Int)], .slice A n c] w
    fun e w' => e = .returned (.int .u32 ((Fr.sumT [c4, c5, c6] l : Nat) : Int)) ∧ Below w.heap.size w w' := by
  go_enter Tryd.func29, Tryd.ntmps29
  have hb1 := (Below.refl w.heap.size w).alloc (Nat.le_refl _) (Obj.cells #[.int .u8 (c0.toNat : Int), .int .u8 (c1.toNat : Int), .int .u8 (c2.toNat : Int), .int .u8 (c3.toNat : Int), .int .u8 (c4.toNat : Int), .int .u8 (c5.toNat : Int), .int .u8 (c6.toNat : Int)] 42)
  have ht : Bs (w.alloc (Obj.cells #[.int .u8 (c0.toNat : Int), .int .u8 (c1.toNat : Int), .int .u8 (c2.toNat : Int), .int .u8 (c3.toNat : Int), .int .u8 (c4.toNat : Int), .int .u8 (c5.toNat : Int), .int .u8 (c6.toNat : Int)] 42)) (some ⟨w.heap.size, 4, none⟩) [c4, c5, c6] :=
    (Blk.new w 42 _).rd rfl (fun j u hu => by
      match j, hu with
      | 0, hu => exact hu
      | 1, hu => exact hu
      | 2, hu => exact hu
      | j + 3, hu => simp [bvs] at hu)
  have hb' := hb.alloc (Obj.cells #[.int .u8 (c0.toNat : Int), .int .u8 (c1.toNat : Int), .int .u8 (c2.toNat : Int), .int .u8 (c3.toNat : Int), .int .u8 (c4.toNat : Int), .int .u8 (c5.toNat : Int), .int .u8 (c6.toNat : Int)] 42)
  go_wp2_with fail
  refine (of_at _ _ 3 _ [c4, c5, c6] rfl (by omega) ht).mono ?_
  rintro _ w1 ⟨rfl, k1⟩
  go_wp2_with fail
  refine (more_at w1 _ (more_lt _ _) A n c l hl (by omega) (hb'.below k1)).mono ?_
  rintro _ w2 ⟨rfl, k2⟩
  go_wp2
  go_ret
  have k3 := hb1.trans (k1.mono hb1.size)
  exact ⟨rfl, k3.trans (k2.mono k3.size)⟩

/-! ### noughts -/
theorem isnz_any (c : UInt8) (w : World) : Calls Tryd.prog 35 #[.int .u8 (c.toNat : Int)] w fun e w' => e = .returned (.bool ((c.toNat : Int) != 0)) ∧ w = w' := by
  go_enter Tryd.func35, Tryd.ntmps35
  go_wp2
  go_ret
  exact ⟨rfl, rfl⟩
theorem index_yes (w : World) (A : Option Addr) (n c : Nat) (l : List UInt8) (hl : l.length = n) (hn : n ≤ 1000000) (hb : Bs w A l) (hz : Fr.allZ l = true) :
    Calls Tryd.prog 40 #[.slice A n c, .func (.func 35) #[] #[]] w fun e w' => e = .returned (.int .i64 (-1)) ∧ w = w' := by
  subst hl
  replace hz := Lib.hid hz
  go_enter Tryd.func40, Tryd.ntmps40
  go_wp2
  go_loop [8] (fun i => ∃ k : Nat, k ≤ l.length ∧ i = .int .i64 (k : Int)) (fun i => l.length - (intOf i).toNat)
  case atStart => exact ⟨0, by omega, rfl⟩
  case round =>
    obtain ⟨k, hk, rfl⟩ := hrel
    by_cases hlt : k < l.length
    · obtain ⟨b, off, rfl, hblt, hc⟩ := hb.at_ hlt
      have hck := hc k hlt
      have h0 : l[k] = 0 := by
        have := List.all_eq_true.1 hz.out l[k] (List.getElem_mem hlt)
        simpa using this
      rw [h0] at hck
      clear hc
      have hd := isnz_any 0
      go_wp2_with fail
      refine (hd _).mono ?_
      rintro _ _ ⟨rfl, rfl⟩
      go_wp2
      go_round
      case rel => exact ⟨k + 1, by omega, by go_num⟩
      case measure => simp [intOf]; omega
    · go_wp2
      go_ret
      exact ⟨rfl, rfl⟩

theorem index_no (w : World) (A : Option Addr) (n c : Nat) (l : List UInt8) (hl : l.length = n) (hn : n ≤ 1000000) (hb : Bs w A l) (hz : Fr.allZ l = false) :
    Calls Tryd.prog 40 #[.slice A n c, .func (.func 35) #[] #[]] w fun e w' => (∃ i : Nat, e = .returned (.int .i64 (i : Int))) ∧ w = w' := by
  subst hl
  replace hz := Lib.hid hz
  go_enter Tryd.func40, Tryd.ntmps40
  go_wp2
  go_loop [8] (fun i => ∃ k : Nat, k ≤ l.length ∧ i = .int .i64 (k : Int) ∧ Fr.allZ (l.take k) = true) (fun i => l.length - (intOf i).toNat)
  case atStart => exact ⟨0, by omega, rfl, rfl⟩
  case round =>
    obtain ⟨k, hk, rfl, hzk⟩ := hrel
    replace hzk := Lib.hid hzk
    by_cases hlt : k < l.length
    · obtain ⟨b, off, rfl, hblt, hc⟩ := hb.at_ hlt
      have hck := hc k hlt
      obtain ⟨x, hx⟩ : ∃ x, l[k] = x := ⟨_, rfl⟩
      rw [hx] at hck
      replace hx := Lib.hid hx
      clear hc
      have hd := isnz_any x
      by_cases h0 : x = 0
      · subst h0
        go_wp2_with fail
        refine (hd _).mono ?_
        rintro _ _ ⟨rfl, rfl⟩
        go_wp2
        go_round
        case rel => exact ⟨k + 1, by omega, by go_num, by rw [List.take_succ_eq_append_getElem hlt, hx.out, Fr.allZ, List.all_append, ← Fr.allZ, hzk.out]; rfl⟩
        case measure => simp [intOf]; omega
      · have h1 : ((x.toNat : Int) != 0) = true := by
          rw [bne_iff_ne]
          intro h
          exact h0 (UInt8.toNat_inj.1 (by simpa using h))
        go_wp2_with fail
        refine (hd _).mono ?_
        rintro _ _ ⟨rfl, rfl⟩
        go_wp2
        go_ret
        exact ⟨⟨k, rfl⟩, rfl⟩
    · exfalso
      have h1 := hzk.out
      rw [List.take_of_length_le (by omega), hz.out] at h1
      cases h1
theorem contains_yes (w : World) (A : Option Addr) (n c : Nat) (l : List UInt8) (hl : l.length = n) (hn : n ≤ 1000000) (hb : Bs w A l) (hz : Fr.allZ l = true) :
    Calls Tryd.prog 34 #[.slice A n c, .func (.func 35) #[] #[]] w fun e w' => e = .returned (.bool false) ∧ w = w' := by
  have hi := index_yes w A n c l hl hn hb hz
  clear hz
  go_enter Tryd.func34, Tryd.ntmps34
  go_wp2_with fail
  refine hi.mono ?_
  rintro _ _ ⟨rfl, rfl⟩
  go_wp2
  go_ret
  exact ⟨rfl, rfl⟩
theorem contains_no (w : World) (A : Option Addr) (n c : Nat) (l : List UInt8) (hl : l.length = n) (hn : n ≤ 1000000) (hb : Bs w A l) (hz : Fr.allZ l = false) :
    Calls Tryd.prog 34 #[.slice A n c, .func (.func 35) #[] #[]] w fun e w' => e = .returned (.bool true) ∧ w = w' := by
  have hi := index_no w A n c l hl hn hb hz
  clear hz
  go_enter Tryd.func34, Tryd.ntmps34
  go_wp2_with fail
  refine hi.mono ?_
  rintro _ _ ⟨⟨i, rfl⟩, rfl⟩
  go_wp2
  go_ret
  exact ⟨rfl, rfl⟩
theorem noughts_any (w : World) (A : Option Addr) (n c : Nat) (l : List UInt8) (hl : l.length = n) (hn : n ≤ 1000000) (hb : Bs w A l) (z : Bool) (hz : Fr.allZ l = z) :
    Calls Tryd.prog 26 #[.slice A n c] w fun e w' => e = .returned (.bool z) ∧ w = w' := by
  go_enter Tryd.func26, Tryd.ntmps26
  cases z
  · have hi := contains_no w A n c l hl hn hb hz
    clear hz
    go_wp2_with fail
    refine hi.mono ?_
    rintro _ _ ⟨rfl, rfl⟩
    go_wp2
    go_ret
    exact ⟨rfl, rfl⟩
  · have hi := contains_yes w A n c l hl hn hb hz
    clear hz
    go_wp2_with fail
    refine hi.mono ?_
    rintro _ _ ⟨rfl, rfl⟩
    go_wp2
    go_ret
    exact ⟨rfl, rfl⟩

/-! ### headOf -/
/-- A head while it is filled: k of the sum's bytes are laid. -/
def hcs (s n : Nat) (k : UInt8) (i : Nat) : Array Value :=
  #[.int .u8 (if 0 < i then ((UInt8.ofNat s).toNat : Int) else 0), .int .u8 (if 1 < i then ((UInt8.ofNat (s / 256)).toNat : Int) else 0), .int .u8 (if 2 < i then ((UInt8.ofNat (s / 65536)).toNat : Int) else 0), .int .u8 (if 3 < i then ((UInt8.ofNat (s / 16777216)).toNat : Int) else 0), .int .u8 ((UInt8.ofNat n).toNat : Int), .int .u8 ((UInt8.ofNat (n / 256)).toNat : Int), .int .u8 (k.toNat : Int)]
theorem ofNat_int (s : Nat) : ((UInt8.ofNat s).toNat : Int) = (s : Int) % 256 := by rw [UInt8.toNat_ofNat']; omega
theorem hcs_end (k : UInt8) (l : List UInt8) : hcs (Fr.sumT (Fr.tail3 k l.length) l) l.length k 4 = (bvs (Fr.head k l)).toArray := rfl
theorem hcs0 (s n : Nat) (k : UInt8) : (hcs s n k 0).setIfInBounds 0 (.int .u8 ((s : Int) % 256)) = hcs s n k 1 := by
  have e := ofNat_int s
  simp [hcs, e]
theorem hcs1 (s n : Nat) (k : UInt8) : (hcs s n k 1).setIfInBounds 1 (.int .u8 ((s : Int) / 256 % 256)) = hcs s n k 2 := by
  have e := ofNat_int (s / 256)
  simp [hcs, e]
theorem hcs2 (s n : Nat) (k : UInt8) : (hcs s n k 2).setIfInBounds 2 (.int .u8 ((s : Int) / 65536 % 256)) = hcs s n k 3 := by
  have e := ofNat_int (s / 65536)
  simp [hcs, e]
theorem hcs3 (s n : Nat) (hs : s < 4294967296) (k : UInt8) : (hcs s n k 3).setIfInBounds 3 (.int .u8 ((s : Int) / 16777216)) = hcs s n k 4 := by
  have e : ((UInt8.ofNat (s / 16777216)).toNat : Int) = (s : Int) / 16777216 := by rw [ofNat_int]; omega
  simp [hcs, e]
  omega
theorem hcs_one (s n : Nat) (k : UInt8) (i : Nat) : (hcs s n k i).all (·.oneCell') = true := by
  simp [hcs, Value.oneCell']
theorem head_size : (Tryd.prog.info? 42).map (·.size) = some 7 := by kernel_rfl
set_option maxHeartbeats 1000000 in
theorem headOf_any (k : UInt8) (A : Option Addr) (n c : Nat) (l : List UInt8) (hl : l.length = n) (hn : n < 65536) (w : World) (hb : Bs w A l) :
    Calls Tryd.prog 18 #[.int .u8 (k.toNat : Int), .slice A n c] w fun e w' => e = .returned (.agg (hcs (Fr.sumT (Fr.tail3 k n) l) n k 4)) ∧ Below w.heap.size w w' := by
  have e1 : (n : Int) % 256 = ((UInt8.ofNat n).toNat : Int) := (ofNat_int n).symm
  have e2 : (n : Int) / 256 = ((UInt8.ofNat (n / 256)).toNat : Int) := by rw [ofNat_int]; omega
  have hs := fun W (h : Bs W A l) => sum_any 0 0 0 0 (UInt8.ofNat n) (UInt8.ofNat (n / 256)) k A n c l hl (by omega) W h
  rw [← e1, ← e2] at hs
  have hB0 := (Below.refl w.heap.size w).alloc (Nat.le_refl _) (Obj.cells #[.int .u8 0, .int .u8 0, .int .u8 0, .int .u8 0, .int .u8 ((n : Int) % 256), .int .u8 ((n : Int) / 256), .int .u8 (k.toNat : Int)] 42)
  have hK0 : Blk (w.alloc (Obj.cells #[.int .u8 0, .int .u8 0, .int .u8 0, .int .u8 0, .int .u8 ((n : Int) % 256), .int .u8 ((n : Int) / 256), .int .u8 (k.toNat : Int)] 42)) w.heap.size 42 (hcs (Fr.sumT (Fr.tail3 k n) l) n k 0) := by
    have := Blk.new w 42 #[.int .u8 0, .int .u8 0, .int .u8 0, .int .u8 0, .int .u8 ((n : Int) % 256), .int .u8 ((n : Int) / 256), .int .u8 (k.toNat : Int)]
    unfold hcs
    rw [← e1, ← e2]
    exact this
  have hsl := more_lt (more 0 (Fr.tail3 k n)) l
  rw [← Fr.sumT] at hsl
  replace e1 := Lib.hid e1
  replace e2 := Lib.hid e2
  replace hs := Lib.hid hs
  replace hK0 := Lib.hid hK0
  go_enter Tryd.func18, Tryd.ntmps18
  go_wp2_with fail
  refine (hs.out _ (hb.alloc _)).mono ?_
  rintro _ w1 ⟨rfl, k1⟩
  change Fr.sumT (Fr.tail3 k n) l < 4294967296 at hsl
  have hK1 := hK0.out.below k1 hK0.out.lt
  have hB1 := hB0.trans (k1.mono hB0.size)
  rw [show [UInt8.ofNat n, UInt8.ofNat (n / 256), k] = Fr.tail3 k n from rfl]
  generalize hse : Fr.sumT (Fr.tail3 k n) l = s at *
  replace hse := Lib.hid hse
  clear hs hK0 k1 hB0
  go_wp2_with fail
  go_loopw [21] (fun i wr => ∃ j : Nat, j ≤ 4 ∧ i = .int .i64 (j : Int) ∧ Blk wr w.heap.size 42 (hcs s n k j) ∧ Below w.heap.size w wr) (fun i _ => 4 - (intOf i).toNat)
  case atStart => exact ⟨0, by omega, rfl, hK1, hB1⟩
  case round =>
    clear hK1 hB1
    obtain ⟨j, hj, rfl, hK, hB⟩ := hrel
    have hf := hK.frozen j
    have hcj := hK.cell j
    by_cases h4 : j = 4
    · subst h4
      clear hf hcj
      go_wp2_with (first | (refine wpList_load_blk rfl 42 (.tmp 4) rfl w.heap.size rfl hK Tryd.underlying42 rfl head_size ?_) | (refine wpList_store_same rfl 42 (.tmp 4) (.tmp 32) rfl w.heap.size rfl hK (by rfl) head_size (hcs_one _ _ _ _) ?_) | fail)
      exact bodyPost_ret (results_blk rfl _ w.heap.size rfl hK Tryd.underlying42 rfl head_size) rfl ⟨by rw [hse.out], hB⟩
    · rcases (show j = 0 ∨ j = 1 ∨ j = 2 ∨ j = 3 by omega) with rfl | rfl | rfl | rfl
      all_goals
        simp only [hcs, List.getElem?_toArray, List.getElem?_cons_zero, List.getElem?_cons_succ, Nat.lt_irrefl, if_false] at hcj
        go_wp2_with fail
      · exact ⟨⟨1, by omega, rfl, by have h := hK.store 0 (.int .u8 ((s : Int) % 256)); rw [hcs0] at h; exact h, hB.setCell (Nat.le_refl _) _⟩, by decide⟩
      · exact ⟨⟨2, by omega, rfl, by have h := hK.store 1 (.int .u8 ((s : Int) / 256 % 256)); rw [hcs1] at h; exact h, hB.setCell (Nat.le_refl _) _⟩, by decide⟩
      · exact ⟨⟨3, by omega, rfl, by have h := hK.store 2 (.int .u8 ((s : Int) / 65536 % 256)); rw [hcs2] at h; exact h, hB.setCell (Nat.le_refl _) _⟩, by decide⟩
      · exact ⟨⟨4, by omega, rfl, by have h := hK.store 3 (.int .u8 ((s : Int) / 16777216)); rw [hcs3 _ _ hsl] at h; exact h, hB.setCell (Nat.le_refl _) _⟩, by decide⟩

/-! ### fits -/
set_option maxHeartbeats 2000000 in
theorem fits_any (c0 c1 c2 c3 c4 c5 c6 : UInt8) (g : Bool) (rm had n : Nat) (hn : c4.toNat + 256 * c5.toNat = n) (hrm : rm ≤ 256) (hhad : had ≤ 1000000) (w : World) :
    Calls Tryd.prog 27 #[.agg #[.int .u8 (c0.toNat : Int), .int .u8 (c1.toNat : Int), .int .u8 (c2.toNat : Int), .int .u8 (c3.toNat : Int), .int .u8 (c4.toNat : Int), .int .u8 (c5.toNat : Int), .int .u8 (c6.toNat : Int)], .bool g, .int .i64 (rm : Int), .int .i64 (had : Int)] w
    fun e w' => e = .returned (.bool (Fr.fits c6 n g rm had)) ∧ Below w.heap.size w w' := by
  have hm := fun W => many_any c0 c1 c2 c3 c4 c5 c6 W
  rw [hn] at hm
  have hnb : n ≤ 65535 := by have := c4.toNat_lt; have := c5.toNat_lt; omega
  replace hm := Lib.hid hm
  clear hn
  have hb1 := (Below.refl w.heap.size w).alloc (Nat.le_refl _) (Obj.cells #[.int .u8 (c0.toNat : Int), .int .u8 (c1.toNat : Int), .int .u8 (c2.toNat : Int), .int .u8 (c3.toNat : Int), .int .u8 (c4.toNat : Int), .int .u8 (c5.toNat : Int), .int .u8 (c6.toNat : Int)] 42)
  have hK := Blk.new w 42 #[.int .u8 (c0.toNat : Int), .int .u8 (c1.toNat : Int), .int .u8 (c2.toNat : Int), .int .u8 (c3.toNat : Int), .int .u8 (c4.toNat : Int), .int .u8 (c5.toNat : Int), .int .u8 (c6.toNat : Int)]
  obtain ⟨κ, hκ⟩ : ∃ κ : Nat, c6.toNat = κ := ⟨_, rfl⟩
  have hκ1 : (c6 = 1) ↔ κ = 1 := by rw [← hκ, ← UInt8.toNat_inj]; rfl
  have hκ2 : (c6 = 2) ↔ κ = 2 := by rw [← hκ, ← UInt8.toNat_inj]; rfl
  have hκ3 : (c6 = 3) ↔ κ = 3 := by rw [← hκ, ← UInt8.toNat_inj]; rfl
  have hκ4 : (c6 = 4) ↔ κ = 4 := by rw [← hκ, ← UInt8.toNat_inj]; rfl
  rw [hκ] at hb1 hK hm ⊢
  have hf : Fr.fits c6 n g rm had = if κ = 1 then !g && decide (n ≤ rm) else if κ = 2 then !g && decide (n = rm) else if κ = 3 then g && decide (n = rm) && decide (had + n ≤ 65536) else if κ = 4 then g && decide (n ≤ rm) && decide (0 < n) && decide (had + n ≤ 65536) else false := by
    unfold Fr.fits
    simp only [hκ1, hκ2, hκ3, hκ4]
  rw [hf]
  clear hf hκ1 hκ2 hκ3 hκ4 hκ
  replace hK := Lib.hid hK
  by_cases k1 : κ = 1
  · subst k1
    cases g
    all_goals
      go_enter Tryd.func27, Tryd.ntmps27
      go_wp2_with fail
      refine (hm.out _).mono ?_
      rintro _ w1 ⟨rfl, b1⟩
      have hc6 := (hK.out.below b1 hK.out.lt).cell 6
      go_wp2
      go_ret
      refine ⟨?_, hb1.trans (b1.mono hb1.size)⟩
      simp
  by_cases k2 : κ = 2
  · subst k2
    clear k1
    cases g
    all_goals
      go_enter Tryd.func27, Tryd.ntmps27
      go_wp2_with fail
      refine (hm.out _).mono ?_
      rintro _ w1 ⟨rfl, b1⟩
      have hc6 := (hK.out.below b1 hK.out.lt).cell 6
      go_wp2
      go_ret
      refine ⟨?_, hb1.trans (b1.mono hb1.size)⟩
      simp
      try (rw [Bool.eq_iff_iff, beq_iff_eq, decide_eq_true_iff]; omega)
  by_cases k3 : κ = 3
  · subst k3
    clear k1 k2
    cases g
    · go_enter Tryd.func27, Tryd.ntmps27
      go_wp2_with fail
      refine (hm.out _).mono ?_
      rintro _ w1 ⟨rfl, b1⟩
      have hc6 := (hK.out.below b1 hK.out.lt).cell 6
      go_wp2
      go_ret
      refine ⟨?_, hb1.trans (b1.mono hb1.size)⟩
      simp
    · by_cases q1 : n = rm
      · subst q1
        go_enter Tryd.func27, Tryd.ntmps27
        go_wp2_with fail
        refine (hm.out _).mono ?_
        rintro _ w1 ⟨rfl, b1⟩
        have hc6 := (hK.out.below b1 hK.out.lt).cell 6
        go_wp2
        go_ret
        refine ⟨?_, hb1.trans (b1.mono hb1.size)⟩
        simp
        try omega
      · have d1 : ((n : Int) == (rm : Int)) = false := by simp; omega
        go_enter Tryd.func27, Tryd.ntmps27
        go_wp2_with fail
        refine (hm.out _).mono ?_
        rintro _ w1 ⟨rfl, b1⟩
        have hc6 := (hK.out.below b1 hK.out.lt).cell 6
        go_wp2
        go_ret
        refine ⟨?_, hb1.trans (b1.mono hb1.size)⟩
        simp [q1]
  by_cases k4 : κ = 4
  · subst k4
    clear k1 k2 k3
    cases g
    · go_enter Tryd.func27, Tryd.ntmps27
      go_wp2_with fail
      refine (hm.out _).mono ?_
      rintro _ w1 ⟨rfl, b1⟩
      have hc6 := (hK.out.below b1 hK.out.lt).cell 6
      go_wp2
      go_ret
      refine ⟨?_, hb1.trans (b1.mono hb1.size)⟩
      simp
    · by_cases q1 : n ≤ rm
      · have d1 : decide (n ≤ rm) = true := decide_eq_true q1
        by_cases q2 : 0 < n
        · have d2 : decide ((0 : Int) < (n : Int)) = true := decide_eq_true (by omega)
          have d3 : decide (0 < n) = true := decide_eq_true q2
          go_enter Tryd.func27, Tryd.ntmps27
          go_wp2_with fail
          refine (hm.out _).mono ?_
          rintro _ w1 ⟨rfl, b1⟩
          have hc6 := (hK.out.below b1 hK.out.lt).cell 6
          go_wp2
          go_ret
          refine ⟨?_, hb1.trans (b1.mono hb1.size)⟩
          simp [q1, q2]
          try omega
        · obtain rfl : n = 0 := by omega
          go_enter Tryd.func27, Tryd.ntmps27
          go_wp2_with fail
          refine (hm.out _).mono ?_
          rintro _ w1 ⟨rfl, b1⟩
          have hc6 := (hK.out.below b1 hK.out.lt).cell 6
          go_wp2
          go_ret
          refine ⟨?_, hb1.trans (b1.mono hb1.size)⟩
          simp
      · have d1 : decide (n ≤ rm) = false := decide_eq_false q1
        go_enter Tryd.func27, Tryd.ntmps27
        go_wp2_with fail
        refine (hm.out _).mono ?_
        rintro _ w1 ⟨rfl, b1⟩
        have hc6 := (hK.out.below b1 hK.out.lt).cell 6
        go_wp2
        go_ret
        refine ⟨?_, hb1.trans (b1.mono hb1.size)⟩
        simp [q1]
  have e1 : ((κ : Int) == 1) = false := by simp; omega
  have e2 : ((κ : Int) == 2) = false := by simp; omega
  have e3 : ((κ : Int) == 3) = false := by simp; omega
  have e4 : ((κ : Int) == 4) = false := by simp; omega
  go_enter Tryd.func27, Tryd.ntmps27
  go_wp2_with fail
  refine (hm.out _).mono ?_
  rintro _ w1 ⟨rfl, b1⟩
  have hc6 := (hK.out.below b1 hK.out.lt).cell 6
  go_wp2
  go_ret
  refine ⟨?_, hb1.trans (b1.mono hb1.size)⟩
  simp [k1, k2, k3, k4]
end Go.Proofs.YtnjihcjijicgpaaDoor
