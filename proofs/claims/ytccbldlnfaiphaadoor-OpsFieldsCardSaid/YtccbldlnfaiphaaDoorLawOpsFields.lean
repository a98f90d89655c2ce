/- What an op's kind has not may not be there: for every input, no condition but what the listed variable holds. -/
import Derived.Test.YtccbldlnfaiphaaDoorOpH
import Derived.Test.YtccbldlnfaiphaaDoorOpArg
import Derived.Test.YtccbldlnfaiphaaDoorLiftD
import Derived.Test.YtccbldlnfaiphaaDoorCards
import Derived.Test.YtccbldlnfaiphaaDoorTie
import Derived.LaidMore
import Derived.SevenTiedAt
import Derived.Lib.LaidTab
set_option linter.unusedSimpArgs false
set_option linter.unusedVariables false
namespace Go.Proofs.YtccbldlnfaiphaaDoor.lawOpsFields
open Go Go.RowKit Herb Herb.Cm Go.ChangeShapes Go.WideShapes Go.ChangeAt

theorem chk_iff (kind : Nat) (br ot : ByteArray) (pl : Nat) (cs : List Ch) : chk ⟨kind, br, ot, pl, cs⟩ = (decide (kind ≤ 4) && nameB br && (if two kind then nameB ot else decide (ot.size = 0)) && (trim kind || decide (pl = 0)) && (many kind || decide (cs.length = 0))
    && (kind != 0 || (decide (1 ≤ cs.length) && decide (cs.length ≤ 32))) && cs.all chB) := rfl
theorem chk_drop (x : ByteArray) : chk ⟨2, x, ⟨#[]⟩, 0, []⟩ = nameB x := by
  rw [chk_iff]
  have h1 : two 2 = false := rfl
  have h2 : trim 2 = false := rfl
  have h3 : many 2 = false := rfl
  have h4 : (ByteArray.mk #[]).size = 0 := rfl
  rw [h1, h2, h3, h4]
  simp
theorem chk_other {kind : Nat} {br ot : ByteArray} {pl : Nat} {cs : List Ch} (h : chk ⟨kind, br, ot, pl, cs⟩ = true) (x : ByteArray) :
    chk ⟨kind, br, x, pl, cs⟩ = if two kind then nameB x else decide (x.size = 0) := by
  rw [chk_iff] at h ⊢
  simp only [Bool.and_eq_true] at h
  obtain ⟨⟨⟨⟨⟨⟨h1, h2⟩, h3⟩, h4⟩, h5⟩, h6⟩, h7⟩ := h
  rw [h1, h2, h4, h5, h6, h7]
  simp
theorem chk_name {kind : Nat} {br ot : ByteArray} {pl : Nat} {cs : List Ch} (h : chk ⟨kind, br, ot, pl, cs⟩ = true) (x : ByteArray) :
    chk ⟨kind, x, ot, pl, cs⟩ = nameB x := by
  rw [chk_iff] at h ⊢
  simp only [Bool.and_eq_true] at h
  obtain ⟨⟨⟨⟨⟨⟨h1, h2⟩, h3⟩, h4⟩, h5⟩, h6⟩, h7⟩ := h
  rw [h1, h3, h4, h5, h6, h7]
  simp
theorem chk_place {kind : Nat} {br ot : ByteArray} {pl : Nat} {cs : List Ch} (h : chk ⟨kind, br, ot, pl, cs⟩ = true) :
    chk ⟨kind, br, ot, (pl + 1) % 18446744073709551616, cs⟩ = trim kind := by
  rw [chk_iff] at h ⊢
  simp only [Bool.and_eq_true] at h
  obtain ⟨⟨⟨⟨⟨⟨h1, h2⟩, h3⟩, h4⟩, h5⟩, h6⟩, h7⟩ := h
  rw [h1, h2, h3, h5, h6, h7]
  cases ht : trim kind
  · rw [ht] at h4
    simp at h4
    subst h4
    simp
  · simp
theorem chk_changes {kind : Nat} {br ot : ByteArray} {pl : Nat} {cs : List Ch} (h : chk ⟨kind, br, ot, pl, cs⟩ = true) :
    chk ⟨kind, br, ot, pl, [⟨⟨#[107]⟩, 0, 0, ⟨#[]⟩⟩]⟩ = many kind := by
  rw [chk_iff] at h ⊢
  simp only [Bool.and_eq_true] at h
  obtain ⟨⟨⟨⟨⟨⟨h1, h2⟩, h3⟩, h4⟩, h5⟩, h6⟩, h7⟩ := h
  rw [h1, h2, h3, h4]
  have : chB ⟨⟨#[107]⟩, 0, 0, ⟨#[]⟩⟩ = true := by decide +kernel
  simp [this]

theorem size_alloc1 (w : World) (o : Obj) : (w.alloc o).heap.size = w.heap.size + 1 := by
  first | rfl | simp | (unfold World.alloc; simp)
theorem B_al {a W : World} (h : Below a.heap.size a W) (o : Obj) : Below a.heap.size a (W.alloc o) := h.alloc h.size o
theorem keep2_below {B D : Nat} {t : TypeId} {cs ds : Array Value} {wa W W' : World} (h : (∀ i, W.cell? ⟨B, i, none⟩ = cs[i]?) ∧ (∀ i, W.cell? ⟨D, i, none⟩ = ds[i]?) ∧ Blk W B t cs ∧ Blk W D t ds ∧ Below wa.heap.size wa W) (hb : Below W.heap.size W W') :
    (∀ i, W'.cell? ⟨B, i, none⟩ = cs[i]?) ∧ (∀ i, W'.cell? ⟨D, i, none⟩ = ds[i]?) ∧ Blk W' B t cs ∧ Blk W' D t ds ∧ Below wa.heap.size wa W' :=
  ⟨(h.2.2.1.below hb h.2.2.1.lt).cell, (h.2.2.2.1.below hb h.2.2.2.1.lt).cell, h.2.2.1.below hb h.2.2.1.lt, h.2.2.2.1.below hb h.2.2.2.1.lt, h.2.2.2.2.trans (hb.mono h.2.2.2.2.size)⟩

set_option maxRecDepth 100000 in
set_option maxHeartbeats 6400000 in
theorem walk0 (w : World) (hS : Sets w) (kind : Nat) (br ot : ByteArray) (pl : Nat) (A : Option Addr) (c : Nat) (cs : List Ch) (x : ByteArray) (hb : Cs w A cs) (hbr : br.size ≤ 140737488355328) (hot : ot.size ≤ 140737488355328) (hxs : x.size ≤ 140737488355328)
    (hcl : cs.length ≤ 140737488355328) (hs : ∀ y ∈ cs, y.k.size ≤ 140737488355328 ∧ y.v.size ≤ 140737488355328) (hpl : pl < 18446744073709551616) :
    Calls Tryd.prog 7 #[.agg #[.int .u8 (kind : Int), .string br, .string ot, .int .u64 (pl : Int), .slice A cs.length c], .string x] w fun e w' => e = .returned (.bool true) ∧ Below w.heap.size w w' := by
  obtain ⟨n, hn⟩ : ∃ n, cs.length = n := ⟨_, rfl⟩
  have h0 := (Below.refl w.heap.size w).alloc (Nat.le_refl _) (.cells #[.int .u8 (kind : Int), .string br, .string ot, .int .u64 (pl : Int), .slice A cs.length c] 26)
  have kb := Blk.new w 26 #[.int .u8 (kind : Int), .string br, .string ot, .int .u64 (pl : Int), .slice A cs.length c]
  obtain ⟨w0, hw0⟩ : ∃ w0, w.alloc (.cells #[.int .u8 (kind : Int), .string br, .string ot, .int .u64 (pl : Int), .slice A cs.length c] 26) = w0 := ⟨_, rfl⟩
  rw [hw0] at h0 kb
  have cg := great_any w0 kind br ot pl A c cs (hb.below h0) hbr hot hcl hs
  rw [hn] at cg hw0 kb hcl ⊢
  have c0 := kb.cell
  replace hn := Lib.hid hn
  replace hS := Lib.hid hS
  replace hw0 := Lib.hid hw0
  go_enter Tryd.func7, Tryd.ntmps7
  go_wp2_with (first | rw [hw0.out] | fail)
  refine cg.mono ?_
  clear cg c0
  rintro _ w1 ⟨⟨g, rfl, hg⟩, b1⟩
  have hB1 := h0.trans (b1.mono h0.size)
  have k1 := kb.below b1 kb.lt
  cases g
  case true =>
    clear hg
    go_wp2_with fail
    refine (lives_any w1 (hS.out.below hB1)).mono ?_
    rintro _ w2 ⟨rfl, b2⟩
    go_wp2
    go_ret
    exact ⟨rfl, hB1.trans (b2.mono hB1.size)⟩
  have hgg := hg.out rfl
  clear hg
  obtain ⟨hg1, hg2⟩ := hgg
  have hn3 := hn.out
  have hn2 : n ≤ 1000000000 := by omega
  clear hn3 hg1 hg2
  obtain ⟨M, hM⟩ : ∃ M, chk ⟨kind, br, ot, pl, cs⟩ = M := ⟨_, rfl⟩
  have ck := check_any w1 (hS.out.below hB1) kind br ot pl A n c cs hn.out hn2 (hb.below hB1) hbr hot
  rw [hM] at ck
  obtain ⟨nm, hnm⟩ : ∃ nm, nameB x = nm := ⟨_, rfl⟩
  obtain ⟨rn, hrn⟩ : ∃ r : Int, (if nm = true then (0 : Int) else 1) = r := ⟨_, rfl⟩
  have frn : (rn == 0) = nm := by rw [← hrn]; cases nm <;> rfl
  obtain ⟨z, hz⟩ : ∃ z, decide (x.size = 0) = z := ⟨_, rfl⟩
  obtain ⟨rz, hrz⟩ : ∃ r : Int, (if z = true then (0 : Int) else 1) = r := ⟨_, rfl⟩
  have frz : (rz == 0) = z := by rw [← hrz]; cases z <;> rfl
  obtain ⟨tr, htr⟩ : ∃ tr, trim kind = tr := ⟨_, rfl⟩
  obtain ⟨rp, hrp⟩ : ∃ r : Int, (if tr = true then (0 : Int) else 1) = r := ⟨_, rfl⟩
  have frp : (rp == 0) = tr := by rw [← hrp]; cases tr <;> rfl
  have f4 : ((kind : Int) == 4) = tr := by rw [← htr]; unfold trim; rw [Bool.eq_iff_iff]; simp only [beq_iff_eq]; omega
  have fx := ba_nil x _ rfl
  rw [hz] at fx
  have nbt : ∀ b : Bool, (b != b) = false := by decide
  obtain ⟨p1, hp1⟩ : ∃ p1, (pl + 1) % 18446744073709551616 = p1 := ⟨_, rfl⟩
  have fp1 : IntKind.u64.wrap ((pl : Int) + 1) = (p1 : Int) := by rw [IntKind.wrap_u64]; omega
  have hcls : (((kind : Int) == 0) = true ∧ ((kind : Int) == 1) = false ∧ ((kind : Int) == 3) = false ∧ two kind = false ∧ many kind = true ∧ True) ∨ (((kind : Int) == 0) = false ∧ ((kind : Int) == 1) = true ∧ ((kind : Int) == 3) = false ∧ two kind = true ∧ many kind = false ∧ (nm = true ∨ nm = false))
      ∨ (((kind : Int) == 0) = false ∧ ((kind : Int) == 1) = false ∧ ((kind : Int) == 3) = true ∧ two kind = true ∧ many kind = true ∧ (nm = true ∨ nm = false)) ∨ (((kind : Int) == 0) = false ∧ ((kind : Int) == 1) = false ∧ ((kind : Int) == 3) = false ∧ two kind = false ∧ many kind = false ∧ True) := by
    by_cases k0 : kind = 0
    · subst k0; exact .inl ⟨rfl, rfl, rfl, rfl, rfl, trivial⟩
    by_cases k1 : kind = 1
    · subst k1; exact .inr (.inl ⟨rfl, rfl, rfl, rfl, rfl, by cases nm <;> simp⟩)
    by_cases k3 : kind = 3
    · subst k3; exact .inr (.inr (.inl ⟨rfl, rfl, rfl, rfl, rfl, by cases nm <;> simp⟩))
    refine .inr (.inr (.inr ⟨?_, ?_, ?_, ?_, ?_, trivial⟩))
    · simp; omega
    · simp; omega
    · simp; omega
    · unfold two; simp [k1, k3]
    · unfold many; simp [k0, k3]
  have c1 := k1.cell
  replace hM := Lib.hid hM
  replace hnm := Lib.hid hnm
  replace hrn := Lib.hid hrn
  replace hz := Lib.hid hz
  replace hrz := Lib.hid hrz
  replace htr := Lib.hid htr
  replace hrp := Lib.hid hrp
  replace hp1 := Lib.hid hp1
  cases M
  case true =>
    go_wp2_with fail
    refine ck.mono ?_
    clear ck c1
    rintro _ w2 ⟨rfl, b2⟩
    have hB2 := hB1.trans (b2.mono hB1.size)
    have k2 := k1.below b2 k1.lt
    clear k1 kb b2 b1 h0
    have c2 := k2.cell
    obtain ⟨W3, hW3⟩ : ∃ W, w2.alloc (.cells #[.int .u8 (kind : Int), .string br, .string x, .int .u64 (pl : Int), .slice A n c] 26) = W := ⟨_, rfl⟩
    have b3 : Below w2.heap.size w2 W3 := by rw [← hW3]; exact (Below.refl _ _).alloc (Nat.le_refl _) _
    have kx : Blk W3 w2.heap.size 26 #[.int .u8 (kind : Int), .string br, .string x, .int .u64 (pl : Int), .slice A n c] := by rw [← hW3]; exact Blk.new w2 _ _
    have hB3 := hB2.trans (b3.mono hB2.size)
    replace k2 := k2.below b3 k2.lt
    have cn := check_any W3 (hS.out.below hB3) 2 x ⟨#[]⟩ 0 none 0 0 [] rfl (by omega) (Cs.nil_ _ _) hxs (by decide)
    rw [chk_drop, hnm.out, hrn.out] at cn
    clear b3 hB2
    replace hW3 := Lib.hid hW3
    go_wp2_with (first | rw [hW3.out] | fail)
    refine cn.mono ?_
    clear cn c2
    rintro _ w4 ⟨rfl, b4⟩
    have hB4 := hB3.trans (b4.mono hB3.size)
    replace k2 := k2.below b4 k2.lt
    replace kx := kx.below b4 kx.lt
    clear b4 hB3
    have c2 := k2.cell
    have cx := kx.cell
    have co := check_any w4 (hS.out.below hB4) kind br x pl A n c cs hn.out hn2 (hb.below hB4) hbr hxs
    rw [chk_other hM.out, hnm.out, hz.out] at co
    have cp := fun W hB => check_any W (hS.out.below hB) kind br ot p1 A n c cs hn.out hn2 (hb.below hB) hbr hot
    rw [← hp1.out, chk_place hM.out, hp1.out, htr.out, hrp.out] at cp
    have cz := fun W hB b h => check_any W (hS.out.below hB) kind br ot pl (some ⟨b, 0, none⟩) 1 1 [⟨⟨#[107]⟩, 0, 0, ⟨#[]⟩⟩] rfl (by omega) h hbr hot
    rw [chk_changes hM.out] at cz
    have cv := fun W hB => check_any W (hS.out.below hB) kind x ot pl A n c cs hn.out hn2 (hb.below hB) hxs hot
    rw [chk_name hM.out, hnm.out, hrn.out] at cv
    rcases hcls with ⟨f0, f1, f3, e1, e2, -⟩ | ⟨f0, f1, f3, e1, e2, rfl | rfl⟩ | ⟨f0, f1, f3, e1, e2, rfl | rfl⟩ | ⟨f0, f1, f3, e1, e2, -⟩
    all_goals
      rw [e1] at co
      rw [e2] at cz
      clear e1 e2
      simp only [if_true, Bool.false_eq_true, if_false, hrn.out, hrz.out] at co cz
      go_wp2_with fail
      refine co.mono ?_
      clear co c2 cx
      rintro _ w5 ⟨rfl, b5⟩
      have hB5 := hB4.trans (b5.mono hB4.size)
      replace k2 := k2.below b5 k2.lt
      clear b5 kx
      have c2 := k2.cell
      obtain ⟨W6, hW6⟩ : ∃ W, w5.alloc (.cells #[.int .u8 (kind : Int), .string br, .string ot, .int .u64 (p1 : Int), .slice A n c] 26) = W := ⟨_, rfl⟩
      have b6 : Below w5.heap.size w5 W6 := by rw [← hW6]; exact (Below.refl _ _).alloc (Nat.le_refl _) _
      have ky : Blk W6 w5.heap.size 26 #[.int .u8 (kind : Int), .string br, .string ot, .int .u64 (p1 : Int), .slice A n c] := by rw [← hW6]; exact Blk.new w5 _ _
      have hB6 := hB5.trans (b6.mono hB5.size)
      have k6 := k2.below b6 k2.lt
      have c6 := k6.cell
      have cy := ky.cell
      have c2a := (k2.below ((Below.refl _ _).alloc (Nat.le_refl _) (.cells #[.int .u8 (kind : Int), .string br, .string ot, .int .u64 (pl : Int), .slice A n c] 26)) k2.lt).cell
      replace hW6 := Lib.hid hW6
      go_wp2_with (first | rw [hW6.out] | fail)
      clear c2a
      go_region_held3 (fun W => (∀ i, W.cell? ⟨w.heap.size, i, none⟩ = (#[.int .u8 (kind : Int), .string br, .string ot, .int .u64 (pl : Int), .slice A n c] : Array Value)[i]?) ∧ (∀ i, W.cell? ⟨w5.heap.size, i, none⟩ = (#[.int .u8 (kind : Int), .string br, .string ot, .int .u64 (p1 : Int), .slice A n c] : Array Value)[i]?) ∧ Blk W w.heap.size 26 #[.int .u8 (kind : Int), .string br, .string ot, .int .u64 (pl : Int), .slice A n c] ∧ Blk W w5.heap.size 26 #[.int .u8 (kind : Int), .string br, .string ot, .int .u64 (p1 : Int), .slice A n c] ∧ Below w.heap.size w W)
        (first | with_reducible exact v7 | with_reducible exact ⟨(k6.drew).cell, (ky.drew).cell, k6.drew, ky.drew, hB6.drew⟩ | with_reducible exact ⟨c6, cy, k6, ky, hB6⟩)
        (first
        | (go_at_call 14; (first | with_reducible refine (cp _ (hB6.drew)).mono ?_ | with_reducible refine (cp _ hB6).mono ?_); rintro _ w7 ⟨rfl, b7⟩; have v7 := keep2_below (by with_reducible assumption) b7))
      obtain ⟨c7, -, k7, -, hB7⟩ := v7
      clear cp cy ky c6 k6 hB6 c2 k2 b6
      obtain ⟨W8, hW8⟩ : ∃ W, (w7.alloc (.cells #[.int .u8 (kind : Int), .string br, .string ot, .int .u64 (pl : Int), .slice (some ⟨w7.heap.size + 1, 0, none⟩) 1 1] 26)).alloc (.cells #[.string ⟨#[107]⟩, .int .u32 0, .int .u8 0, .string ⟨#[]⟩] 51) = W := ⟨_, rfl⟩
      have b8 : Below w7.heap.size w7 W8 := by rw [← hW8]; exact Below.alloc ((Below.refl _ _).alloc (Nat.le_refl _) _) (by rw [size_alloc1]; omega) _
      have kz : Blk W8 w7.heap.size 26 #[.int .u8 (kind : Int), .string br, .string ot, .int .u64 (pl : Int), .slice (some ⟨w7.heap.size + 1, 0, none⟩) 1 1] := by rw [← hW8]; exact (Blk.new w7 _ _).alloc _
      have hcs : Cs W8 (some ⟨w7.heap.size + 1, 0, none⟩) [⟨⟨#[107]⟩, 0, 0, ⟨#[]⟩⟩] := by
        rw [← hW8]
        have := Rd.ch (w7.alloc (.cells #[.int .u8 (kind : Int), .string br, .string ot, .int .u64 (pl : Int), .slice (some ⟨w7.heap.size + 1, 0, none⟩) 1 1] 26)) ⟨⟨#[107]⟩, 0, 0, ⟨#[]⟩⟩
        rw [size_alloc1] at this
        exact this
      have k8 := k7.below b8 k7.lt
      have hB8 := hB7.trans (b8.mono hB7.size)
      have c8r := k8.cell
      rw [← hW8] at c8r
      have c8 := k8.cell
      have cz1 := kz.cell
      replace hW8 := Lib.hid hW8
      go_wp2_with (first | rw [hW8.out] | fail)
      refine (cz _ hB8 _ hcs).mono ?_
      rintro _ w9 ⟨rfl, b9⟩
      have hB9 := hB8.trans (b9.mono hB8.size)
      have k9 := k8.below b9 k8.lt
      have c9 := k9.cell
      clear cz kz c8 k8 hB8 c8r cz1
      obtain ⟨W10, hW10⟩ : ∃ W, w9.alloc (.cells #[.int .u8 (kind : Int), .string x, .string ot, .int .u64 (pl : Int), .slice A n c] 26) = W := ⟨_, rfl⟩
      have b10 : Below w9.heap.size w9 W10 := by rw [← hW10]; exact (Below.refl _ _).alloc (Nat.le_refl _) _
      have kv : Blk W10 w9.heap.size 26 #[.int .u8 (kind : Int), .string x, .string ot, .int .u64 (pl : Int), .slice A n c] := by rw [← hW10]; exact Blk.new w9 _ _
      have hB10 := hB9.trans (b10.mono hB9.size)
      have cv1 := cv W10 hB10
      have cvv := kv.cell
      clear cv
      replace hW10 := Lib.hid hW10
      go_wp2_with (first | rw [hW10.out] | fail)
      refine cv1.mono ?_
      clear cv1 cvv c9
      rintro _ w11 ⟨rfl, b11⟩
      have hB11 := hB10.trans (b11.mono hB10.size)
      go_wp2_with fail
      refine (lives_any w11 (hS.out.below hB11)).mono ?_
      rintro _ w12 ⟨rfl, b12⟩
      go_wp2
      go_ret
      exact ⟨rfl, hB11.trans (b12.mono hB11.size)⟩
  case false =>
    go_wp2_with fail
    refine ck.mono ?_
    clear ck c1
    rintro _ w2 ⟨rfl, b2⟩
    have hB2 := hB1.trans (b2.mono hB1.size)
    have k2 := k1.below b2 k1.lt
    clear k1 kb b2 b1 h0
    have c2 := k2.cell
    obtain ⟨W3, hW3⟩ : ∃ W, w2.alloc (.cells #[.int .u8 (kind : Int), .string br, .string x, .int .u64 (pl : Int), .slice A n c] 26) = W := ⟨_, rfl⟩
    have b3 : Below w2.heap.size w2 W3 := by rw [← hW3]; exact (Below.refl _ _).alloc (Nat.le_refl _) _
    have hB3 := hB2.trans (b3.mono hB2.size)
    replace k2 := k2.below b3 k2.lt
    have cn := check_any W3 (hS.out.below hB3) 2 x ⟨#[]⟩ 0 none 0 0 [] rfl (by omega) (Cs.nil_ _ _) hxs (by decide)
    rw [chk_drop, hnm.out, hrn.out] at cn
    clear b3 hB2
    replace hW3 := Lib.hid hW3
    go_wp2_with (first | rw [hW3.out] | fail)
    refine cn.mono ?_
    clear cn c2
    rintro _ w4 ⟨rfl, b4⟩
    have hB4 := hB3.trans (b4.mono hB3.size)
    replace k2 := k2.below b4 k2.lt
    clear b4 hB3
    have c2 := k2.cell
    obtain ⟨W6, hW6⟩ : ∃ W, w4.alloc (.cells #[.int .u8 (kind : Int), .string br, .string ot, .int .u64 (p1 : Int), .slice A n c] 26) = W := ⟨_, rfl⟩
    have b6 : Below w4.heap.size w4 W6 := by rw [← hW6]; exact (Below.refl _ _).alloc (Nat.le_refl _) _
    have hB6 := hB4.trans (b6.mono hB4.size)
    have k6 := k2.below b6 k2.lt
    have c6 := k6.cell
    have c2a := (k2.below ((Below.refl _ _).alloc (Nat.le_refl _) (.cells #[.int .u8 (kind : Int), .string br, .string ot, .int .u64 (pl : Int), .slice A n c] 26)) k2.lt).cell
    replace hW6 := Lib.hid hW6
    rcases hcls with ⟨f0, f1, f3, e1, e2, -⟩ | ⟨f0, f1, f3, e1, e2, -⟩ | ⟨f0, f1, f3, e1, e2, -⟩ | ⟨f0, f1, f3, e1, e2, -⟩
    all_goals
      clear e1 e2
      go_wp2_with (first | rw [hW6.out] | fail)
      go_quiet (fail)
      all_goals
        have k7 := k6.drewN nq
        have hB7 := below_drewN hB6 nq
        obtain ⟨W7, hW7⟩ : ∃ W, W6.drewN nq = W := ⟨_, rfl⟩
        rw [hW7] at k7 hB7 ⊢
        replace hW7 := Lib.hid hW7
        clear c6 k6 c2 c2a
        have c7 := k7.cell
        have ce := fun (o o' : Obj) => ((k7.alloc o).alloc o').cell
        go_wp2_with fail
        refine (lives_any _ (hS.out.below (B_al (B_al (B_al hB7 _) _) _))).mono ?_
        rintro _ w12 ⟨rfl, b12⟩
        go_wp2
        go_ret
        exact ⟨rfl, (B_al (B_al (B_al hB7 _) _) _).trans (b12.mono (B_al (B_al (B_al hB7 _) _) _).size)⟩
theorem walk (w : World) (hS : Sets w) (kind : Nat) (br ot : ByteArray) (pl : Nat) (A : Option Addr) (c : Nat) (cs : List Ch) (hki : kind < 256) (hpl : pl < 18446744073709551616) (hb : Cs w A cs) (hlc : cs.length ≤ c) (hfit : ∀ y ∈ cs, ChFit y)
    (hc : br.size ≤ reachBytes ∧ ot.size ≤ reachBytes ∧ (∀ y ∈ cs, y.k.size ≤ reachBytes ∧ y.v.size ≤ reachBytes) ∧ cs.length ≤ reachBytes) (x : ByteArray) (hxs : x.size ≤ 140737488355328) :
    Calls Tryd.prog 7 #[.agg #[.int .u8 (kind : Int), .string br, .string ot, .int .u64 (pl : Int), .slice A cs.length c], .string x] w fun e w' => e = .returned (.bool true) ∧ Below w.heap.size w w' := by
  have hr := reachBytes_lt
  obtain ⟨h1, h2, h3, h4⟩ := hc
  exact walk0 w hS kind br ot pl A c cs x hb (by omega) (by omega) hxs (by omega) (fun y hy => by have := h3 y hy; omega) hpl

/-! ### from the walk to the statement (by tail.py) -/
set_option maxRecDepth 100000 in
theorem door_met (os : Os) (args : Array Value) : laidMetH Tryd.prog Rows.opsFieldsRow.laid ((World.doorLaid Tryd.prog 29 os).forCall (fun _ _ => 0) ⟨#[], args, []⟩).memory :=
  laidMetH_of_parts3 (fuel := 8) (laidMet_of_run' 8 (by kernel_rfl) (by kernel_rfl)) (by kernel_rfl) (by kernel_rfl)
set_option maxRecDepth 100000 in
theorem lifted (os : Os) (started : os.Started) (H : Type) (enc : TypeId × Value → H) :
    ReturnsInHanded {} Tryd.checked os 7 .any (fun w args => (Rows.opsFieldsSpec.pre enc Tryd.prog Tryd.f7 [] false w args ∧ laidMetH Tryd.prog Rows.opsFieldsRow.laid w) ∧ sizedMet enc Tryd.prog Tryd.f7 (OpenSpec.ofChange Rows.opsFieldsSpec) false w args) (Rows.opsFieldsSpec.post enc Tryd.prog Tryd.f7 false true false false) := by
  refine lifted_of_and (C := Tryd.checked) (tb := 4) (n := 2) (X := fun w _ => laidMetH Tryd.prog Rows.opsFieldsRow.laid w) (fun _ _ _ hh h => h.of_heap hh) (by kernel_rfl) started (by kernel_rfl) Tryd.func7 (by kernel_rfl) (by kernel_rfl) rfl (by kernel_rfl) Tryd.underlying4 (by kernel_rfl)
    (fun ds hd => by match ds, hd with | [d1, d2], _ => exact ⟨rfl, rfl, rfl⟩)
    (ChangeSpec.witness_shaped (enc := enc) (C := Tryd.checked) (os := os) (X := fun w _ => laidMetH Tryd.prog Rows.opsFieldsRow.laid w) false (World.doorLaid Tryd.prog 29 os) #[.agg #[.int .u8 0, .string ByteArray.empty, .string ByteArray.empty, .int .u64 0, .slice none 0 0], .string ByteArray.empty] 8 rfl (World.shaped_of_RefB (by kernel_rfl) (by kernel_rfl)) (by kernel_rfl) (by kernel_rfl) (by kernel_rfl) (door_met os _)) ?_
  intro W base args ds before hval hA hsz hX
  rw [Tryd.params7] at hA hval hsz
  obtain ⟨v0, vs0, d0, ds0, p0, q0, rfl, rfl, rfl, h0, r0⟩ := trodAll_cons hA
  obtain ⟨v1, vs1, d1, ds1, p1, q1, rfl, rfl, rfl, h1, r1⟩ := trodAll_cons r0
  obtain ⟨rfl, rfl, rfl⟩ := trodAll_nil r1
  obtain ⟨ki0, br0, ot0, pl0, A0, c0, ls0, rfl, hki0, hpl0, hb0, hlc0, hfit0, hcap0⟩ := open_op (hval 0 _ _ rfl rfl) h0
  have hc0 := hcap0 hsz 0 rfl rfl
  obtain ⟨s1, rfl, hcap1⟩ := open_str Tryd.underlying9 (hval 1 _ _ rfl rfl) h1
  have hs1 := hcap1 hsz 1 rfl rfl
  exact walk W (sets_of hX) ki0 br0 ot0 pl0 A0 c0 ls0 hki0 hpl0 hb0 hlc0 hfit0 hc0 s1 (by have := reachBytes_lt; omega)

theorem over : Rows.opsFieldsRow.holds Tryd.pinned (OpenSpec.ofChange Rows.opsFieldsSpec) :=
  OpenClaim.holds_of_wide 7 Tryd.f7 rfl rfl rfl rfl rfl rfl rfl ⟨rfl, rfl, rfl, rfl, rfl⟩ rfl rfl rfl rfl rfl (by kernel_rfl) Tryd.func7 (by kernel_rfl)
    (of_decide_eq_true (by kernel_rfl)) (by unfold Func.isWrapper; first | (rw [if_pos (by decide +kernel)]; kernel_rfl) | (rw [if_neg (by decide +kernel)]; exact ⟨rfl, rfl⟩))
    (fun os started H enc _ => lifted os started H enc)

theorem proved : Rows.OpsFieldsCardSaid :=
  Claim7.holds_tied_plain_at .later [] [.data] true (true, "46d5cacd4782c602f2b9df7395970fea9243359bc8c670c610b31bfbc6d9cf21") true
    over (fun _ h => by cases h) (by kernel_rfl) (fun _ h => by cases h) opsFields_row_tie rfl ⟨rfl, rfl⟩ (by kernel_rfl) rfl
    (fun f fn hf hfn => by
      obtain rfl : f = 7 := Option.some.inj ((show Tryd.prog.funcNamed "herbarium/herbariumlaw07.OpsFields" = some 7 by kernel_rfl).symm.trans hf) |>.symm
      obtain rfl : fn = Tryd.f7 := (Option.some.inj (Tryd.func7.symm.trans hfn)).symm
      exact ⟨by kernel_rfl, fun j t ht => by
        have hall : (Tryd.f7.params.toList.all fun u => !Tryd.prog.wantsStandIn u) = true := by kernel_rfl
        have hm : t ∈ Tryd.f7.params.toList := Array.mem_toList_iff.2 (Array.mem_of_getElem? ht)
        exact (show Tryd.prog.wantsStandIn t = false by simpa using List.all_eq_true.1 hall t hm)⟩)
    (by kernel_rfl)
end Go.Proofs.YtccbldlnfaiphaaDoor.lawOpsFields
