/- Whether any op may be, and what it is in bytes, with any number, is the chapter's, in new memory, or refused; the op stays as it was: for every input, no condition but what the listed variables hold. -/
import Derived.Test.YtccbldlnfaiphaaDoorOpH
import Derived.Test.YtccbldlnfaiphaaDoorOpArg
import Derived.Test.YtccbldlnfaiphaaDoorOpRefP
import Derived.Test.YtccbldlnfaiphaaDoorTwinCh
import Derived.Test.YtccbldlnfaiphaaDoorSameB
import Derived.Test.YtccbldlnfaiphaaDoorSheets
import Derived.Test.YtccbldlnfaiphaaDoorLiftD
import Derived.Test.YtccbldlnfaiphaaDoorCards
import Derived.Test.YtccbldlnfaiphaaDoorTie
import Derived.LaidMore
import Derived.SevenTiedAt
import Derived.Lib.LaidTab
set_option linter.unusedSimpArgs false
set_option linter.unusedVariables false
namespace Go.Proofs.YtccbldlnfaiphaaDoor.lawOpsPut
open Go Go.RowKit Herb Herb.Cm Go.ChangeShapes Go.WideShapes Go.ChangeAt

/-- What a region keeps: two blocks, and all that lay below. -/
theorem keep2_below {B C : Nat} {t u : TypeId} {cs ds : Array Value} {wa W W' : World} (h : (∀ i, W.cell? ⟨B, i, none⟩ = cs[i]?) ∧ (∀ i, W.cell? ⟨C, i, none⟩ = ds[i]?) ∧ Blk W B t cs ∧ Blk W C u ds ∧ Below wa.heap.size wa W) (hb : Below W.heap.size W W') :
    (∀ i, W'.cell? ⟨B, i, none⟩ = cs[i]?) ∧ (∀ i, W'.cell? ⟨C, i, none⟩ = ds[i]?) ∧ Blk W' B t cs ∧ Blk W' C u ds ∧ Below wa.heap.size wa W' :=
  ⟨(h.2.2.1.below hb h.2.2.1.lt).cell, (h.2.2.2.1.below hb h.2.2.2.1.lt).cell, h.2.2.1.below hb h.2.2.1.lt, h.2.2.2.1.below hb h.2.2.2.1.lt, h.2.2.2.2.trans (hb.mono h.2.2.2.2.size)⟩
theorem keep2_bel {B C : Nat} {t u : TypeId} {cs ds : Array Value} {wa W : World} (h : (∀ i, W.cell? ⟨B, i, none⟩ = cs[i]?) ∧ (∀ i, W.cell? ⟨C, i, none⟩ = ds[i]?) ∧ Blk W B t cs ∧ Blk W C u ds ∧ Below wa.heap.size wa W) : Below wa.heap.size wa W := h.2.2.2.2
theorem cs_twin {w : World} {g : Nat} {cs : List Ch} {m : Ch} (hg : Blk w g 51 (chC (cs ++ [m, m])).toArray) : Cs w (some ⟨g, 0, none⟩) cs := by
  refine hg.rd (by rw [chC_length]) (fun j u hu => ?_)
  rw [Nat.zero_add, List.getElem?_toArray, chC_append, List.getElem?_append_left (by have := (List.getElem?_eq_some_iff.1 hu).1; exact this)]
  exact hu

set_option maxRecDepth 100000 in
set_option maxHeartbeats 6400000 in
theorem walk0 (w : World) (hS : Sets w) (s : Nat) (hs : s < 18446744073709551616) (kind : Nat) (br ot : ByteArray) (pl : Nat) (A : Option Addr) (c : Nat) (cs : List Ch) (hpl : pl < 18446744073709551616) (hb : Cs w A cs) (hfit : ∀ y ∈ cs, ChFit y)
    (hbr : br.size ≤ 140737488355328) (hot : ot.size ≤ 140737488355328) (hcl : cs.length ≤ 140737488355328) (hsz : ∀ y ∈ cs, y.k.size ≤ 140737488355328 ∧ y.v.size ≤ 140737488355328) :
    Calls Tryd.prog 3 #[.int .u64 (s : Int), .agg #[.int .u8 (kind : Int), .string br, .string ot, .int .u64 (pl : Int), .slice A cs.length c]] w fun e w' => e = .returned (.bool true) ∧ Below w.heap.size w w' := by
  obtain ⟨n, hn⟩ : ∃ n, cs.length = n := ⟨_, rfl⟩
  have h0 := (Below.refl w.heap.size w).alloc (Nat.le_refl _) (.cells #[.int .u8 (kind : Int), .string br, .string ot, .int .u64 (pl : Int), .slice A cs.length c] 26)
  have kb := Blk.new w 26 #[.int .u8 (kind : Int), .string br, .string ot, .int .u64 (pl : Int), .slice A cs.length c]
  obtain ⟨w0, hw0⟩ : ∃ w0, w.alloc (.cells #[.int .u8 (kind : Int), .string br, .string ot, .int .u64 (pl : Int), .slice A cs.length c] 26) = w0 := ⟨_, rfl⟩
  rw [hw0] at h0 kb
  have cg := great_any w0 kind br ot pl A c cs (hb.below h0) hbr hot hcl hsz
  rw [hn] at cg hw0 kb hcl ⊢
  have c0 := kb.cell
  replace hn := Lib.hid hn
  replace hS := Lib.hid hS
  replace hw0 := Lib.hid hw0
  go_enter Tryd.func3, Tryd.ntmps3
  go_wp2_with (first | rw [hw0.out] | fail)
  refine cg.mono ?_
  clear cg c0
  rintro _ w1 ⟨⟨g, rfl, hg⟩, b1⟩
  have hB1 := h0.trans (b1.mono h0.size)
  have k1 := kb.below b1 kb.lt
  cases g
  case true =>
    clear hg
    go_wp2_with fail
    refine (lives_any w1 (hS.out.below hB1)).mono ?_
    rintro _ w2 ⟨rfl, b2⟩
    go_wp2
    go_ret
    exact ⟨rfl, hB1.trans (b2.mono hB1.size)⟩
  have hn2 : n ≤ 2000 := by have := (hg.out rfl).2; have := hn.out; omega
  clear hg b1
  have c1 := k1.cell
  go_wp2_with fail
  refine (twinOp_any w1 (kind : Int) br ot (pl : Int) A n c cs hn.out (by omega) (hb.below hB1)).mono ?_
  rintro _ w2 ⟨g, rfl, hg2, hgs, b2⟩
  have hB2 := hB1.trans (b2.mono hB1.size)
  have k2 := k1.below b2 k1.lt
  obtain ⟨w3, hw3⟩ : ∃ w3, w2.alloc (.cells #[.int .u8 (kind : Int), .string br, .string ot, .int .u64 (pl : Int), .slice (some ⟨g, 0, none⟩) n (n + 2)] 26) = w3 := ⟨_, rfl⟩
  have t3 : Blk w3 w2.heap.size 26 #[.int .u8 (kind : Int), .string br, .string ot, .int .u64 (pl : Int), .slice (some ⟨g, 0, none⟩) n (n + 2)] := by rw [← hw3]; exact Blk.new w2 _ _
  have b3 : Below w2.heap.size w2 w3 := by rw [← hw3]; exact (Below.refl _ _).alloc (Nat.le_refl _) _
  have hB3 := hB2.trans (b3.mono hB2.size)
  have k3 := k2.below b3 k2.lt
  have hg3 := hg2.below b3 hg2.lt
  obtain ⟨R, hR⟩ : ∃ R, putR s ⟨kind, br, ot, pl, cs⟩ = R := ⟨_, rfl⟩
  obtain ⟨E, hE⟩ : ∃ E, putE s ⟨kind, br, ot, pl, cs⟩ = E := ⟨_, rfl⟩
  have pp := fun W (hB : Below w.heap.size w W) (hC : Cs W (some ⟨g, 0, none⟩) cs) => opPut_any W (hS.out.below hB) s hs kind br ot pl (some ⟨g, 0, none⟩) n (n + 2) cs hn.out (by omega) hC hbr hot hpl hfit
  have pr := fun W (hB : Below w.heap.size w W) => refOpPut_any W s hs kind br ot pl A n c cs hn.out (by omega) (hb.below hB) hbr hot hpl hfit
  obtain ⟨M, hM⟩ : ∃ M : Int, (if chk ⟨kind, br, ot, pl, cs⟩ then (0 : Int) else 1) = M := ⟨_, rfl⟩
  have ck := fun W (hB : Below w.heap.size w W) (hC : Cs W (some ⟨g, 0, none⟩) cs) => check_any W (hS.out.below hB) kind br ot pl (some ⟨g, 0, none⟩) n (n + 2) cs hn.out (by omega) hC hbr hot
  have cr := fun W (hB : Below w.heap.size w W) => refCheck_any W kind br ot pl A n c cs hn.out (by omega) (hb.below hB) hbr hot
  simp only [hR, hE] at pp pr
  simp only [hM] at ck cr
  have hEl : E.length ≤ 65536 := by
    rw [← hE]
    unfold putE
    split
    · rename_i h; exact h.2.2
    · simp
  replace hw3 := Lib.hid hw3
  replace hR := Lib.hid hR
  replace hE := Lib.hid hE
  replace hM := Lib.hid hM
  replace pp := Lib.hid pp
  replace pr := Lib.hid pr
  replace ck := Lib.hid ck
  replace cr := Lib.hid cr
  clear c1
  have c1 := k2.cell
  have tc := t3.cell
  go_wp2_with (first | rw [hw3.out] | fail)
  refine (pp.out w3 hB3 (cs_twin hg3)).mono ?_
  clear c1 tc
  rintro _ w4 ⟨A4, n4, rfl, hn4, hs4, ho4, b4⟩
  replace hn4 := Lib.hid hn4
  have hB4 := hB3.trans (b4.mono hB3.size)
  have k4 := k3.below b4 k3.lt
  have t4 := t3.below b4 t3.lt
  have hg4 := hg3.below b4 hg3.lt
  have c1 := k4.cell
  go_wp2_with fail
  refine (pr.out w4 hB4).mono ?_
  clear c1 pr
  rintro _ w5 ⟨A5, n5, c5, rfl, hn5, hc5, hs5, b5⟩
  have h54 : n5 = n4 := by rw [← hn5, ← hn4.out]
  subst h54
  clear hn5
  have hB5 := hB4.trans (b5.mono hB4.size)
  have k5 := k4.below b5 k4.lt
  have t5 := t4.below b5 t4.lt
  have hg5 := hg4.below b5 hg4.lt
  have ho5 := ho4.below b5
  have hs45 := hs4.below b5
  have hEl5 : n5 ≤ 65536 := by rw [← hn4.out]; exact hEl
  obtain ⟨p, hp⟩ : ∃ p, w5.heap.size = p := ⟨_, rfl⟩
  obtain ⟨w6, hw6⟩ : ∃ w6, w5.alloc (Obj.cells #[.slice none 0 0] 36) = w6 := ⟨_, rfl⟩
  have bk : BookAt w6 p p [] := by
    rw [← hw6, ← hp]
    exact ⟨none, 0, Blk.new w5 _ _, World.ownsRow_nil _ _ _ _⟩
  have b6 : Below w5.heap.size w5 w6 := by rw [← hw6]; exact (Below.refl _ _).alloc (Nat.le_refl _) _
  have hpl6 : p < w6.heap.size := by rw [← hw6, ← hp]; simp
  have hB6 := hB5.trans (b6.mono hB5.size)
  have k6 := k5.below b6 k5.lt
  have t6 := t5.below b6 t5.lt
  have hg6 := hg5.below b6 hg5.lt
  have ho6 := ho5.below b6
  have hs46 := hs45.below b6
  have hs56 := hs5.below b6
  have s34 := b3.size
  have s45 := b4.size
  have s56 := b5.size
  clear b3 b4 b5 b6 hs5 hs45 ho5 ho4 hs4 hg5 hg4 hg3 hg2 k5 k4 k3 k2 k1 kb t5 t4 t3 hgs b2
  replace hw6 := Lib.hid hw6
  replace hp := Lib.hid hp
  go_wp2_with fail
  rw [hp.out, hw6.out]
  have s0 : (∀ i, w6.drew.cell? ⟨w.heap.size, i, none⟩ = (#[.int .u8 (kind : Int), .string br, .string ot, .int .u64 (pl : Int), .slice A n c] : Array Value)[i]?) ∧ (∀ i, w6.drew.cell? ⟨w2.heap.size, i, none⟩ = (#[.int .u8 (kind : Int), .string br, .string ot, .int .u64 (pl : Int), .slice (some ⟨g, 0, none⟩) n (n + 2)] : Array Value)[i]?) ∧ Blk w6.drew w.heap.size 26 #[.int .u8 (kind : Int), .string br, .string ot, .int .u64 (pl : Int), .slice A n c] ∧ Blk w6.drew w2.heap.size 26 #[.int .u8 (kind : Int), .string br, .string ot, .int .u64 (pl : Int), .slice (some ⟨g, 0, none⟩) n (n + 2)] ∧ Below w6.heap.size w6 w6.drew := ⟨k6.drew.cell, t6.drew.cell, k6.drew, t6.drew, (Below.refl _ _).drew⟩
  have ckA := fun W (hB : Below w6.heap.size w6 W) => ck.out W (hB6.trans (hB.mono hB6.size)) (cs_twin (hg6.below hB hg6.lt))
  have crA := fun W (hB : Below w6.heap.size w6 W) => cr.out W (hB6.trans (hB.mono hB6.size))
  have sbA := fun W (hB : Below w6.heap.size w6 W) => sameBytes_yes W A4 A5 n5 n5 c5 E hn4.out (by omega) (hs46.below hB) (hs56.below hB)
  have loA := fun W (hB : Below w6.heap.size w6 W) => leftOp_any W (kind : Int) br ot (pl : Int) g A n c cs hn.out (by omega) (hb.below (hB6.trans (hB.mono hB6.size))) (hg6.below hB hg6.lt)
  replace ckA := Lib.hid ckA
  replace crA := Lib.hid crA
  replace sbA := Lib.hid sbA
  replace loA := Lib.hid loA
  go_cut [52] from 31 to 52 (fun v52 wc => v52 = .bool false ∧ Below w6.heap.size w6 wc ∧ Blk wc w2.heap.size 26 #[.int .u8 (kind : Int), .string br, .string ot, .int .u64 (pl : Int), .slice (some ⟨g, 0, none⟩) n (n + 2)])
  case first =>
    go_region_held3 (fun W => (∀ i, W.cell? ⟨w.heap.size, i, none⟩ = (#[.int .u8 (kind : Int), .string br, .string ot, .int .u64 (pl : Int), .slice A n c] : Array Value)[i]?) ∧ (∀ i, W.cell? ⟨w2.heap.size, i, none⟩ = (#[.int .u8 (kind : Int), .string br, .string ot, .int .u64 (pl : Int), .slice (some ⟨g, 0, none⟩) n (n + 2)] : Array Value)[i]?) ∧ Blk W w.heap.size 26 #[.int .u8 (kind : Int), .string br, .string ot, .int .u64 (pl : Int), .slice A n c] ∧ Blk W w2.heap.size 26 #[.int .u8 (kind : Int), .string br, .string ot, .int .u64 (pl : Int), .slice (some ⟨g, 0, none⟩) n (n + 2)] ∧ Below w6.heap.size w6 W)
      (first | with_reducible exact v7 | with_reducible exact v6 | with_reducible exact v5 | with_reducible exact v4 | with_reducible exact s0)
      (first
      | (go_at_call 14; (with_reducible refine (ckA.out _ (keep2_bel (by with_reducible assumption))).mono ?_); rintro _ q4 ⟨rfl, b4⟩; have v4 := keep2_below (by with_reducible assumption) b4)
      | (go_at_call 15; (with_reducible refine (crA.out _ (keep2_bel (by with_reducible assumption))).mono ?_); rintro _ q5 ⟨rfl, b5⟩; have v5 := keep2_below (by with_reducible assumption) b5)
      | (go_at_call 16; (with_reducible refine (sbA.out _ (keep2_bel (by with_reducible assumption))).mono ?_); rintro _ q6 ⟨rfl, b6⟩; have v6 := keep2_below (by with_reducible assumption) b6)
      | (go_at_call 17; (with_reducible refine (loA.out _ (keep2_bel (by with_reducible assumption))).mono ?_); rintro _ q7 ⟨rfl, b7⟩; have v7 := keep2_below (by with_reducible assumption) b7))
    all_goals
      go_wp2
      go_meet
      case rel => exact ⟨rfl, keep2_bel v7, v7.2.2.2.1⟩
  case rest =>
    obtain ⟨rfl, b8, t8⟩ := hcut
    obtain ⟨w8, rfl⟩ : ∃ x : World, x = wc := ⟨_, rfl⟩
    have hB8 := hB6.trans (b8.mono hB6.size)
    have hg8 := hg6.below b8 hg6.lt
    have ho8 := ho6.below b8
    have bk8 := bk.below b8
    have s68 := b8.size
    have tc := t8.cell
    clear s0 ckA crA sbA loA k6 t6 hs46 hs56 bk ho6 hg6
    go_wp2_with fail
    refine (pp.out w8 hB8 (cs_twin hg8)).mono ?_
    clear tc pp
    rintro _ w9 ⟨A9, n9, rfl, hn9, hs9, ho9, b9⟩
    have h95 : n9 = n5 := by rw [← hn9, ← hn4.out]
    subst h95
    have hB9 := hB8.trans (b9.mono hB8.size)
    have ho89 := ho8.below b9
    have bk9 := bk8.below b9
    have s89 := b9.size
    clear hn9 hs9 ho8 bk8 b8
    have hp9 : p ≤ w9.heap.size := by omega
    go_wp2_with fail
    refine (bytes_any w9 p p [] bk9 hp9 0 rfl (by omega) _ n9 n9).mono ?_
    rintro _ W10 ⟨rfl, bk10, kt10, b10⟩
    have b10 := b10 (Nat.le_refl _)
    have hp10 : p ≤ W10.heap.size := Nat.le_trans hp9 kt10.size
    go_wp2_with fail
    refine (bytes_any W10 p p _ bk10 hp10 1 rfl (by omega) _ n9 n9).mono ?_
    rintro _ W11 ⟨rfl, bk11, kt11, b11⟩
    have b11 := b11 (Nat.le_refl _)
    have hwp : w.heap.size ≤ p := by have := hB5.size; have := hp.out; omega
    have hB11 : Below w.heap.size w W11 := (hB9.trans (b10.mono hwp)).trans (b11.mono hwp)
    have go1 := (ho89.keepT kt10).keepT kt11
    have go2 := (ho9.keepT kt10).keepT kt11
    have s3 := hB3.size
    have hsh := sheets2 (U := w.heap.size) (q0 := ⟨A4, n9, n9, 1⟩) (q1 := ⟨A9, n9, n9, 2⟩) go1 go2 (.inl (by have := hp.out; omega)) (by omega) (by have := hp.out; omega)
    have pa := apart_any W11 p p w.heap.size [⟨A4, n9, n9, 1⟩, ⟨A9, n9, n9, 2⟩] bk11 hB11.size (by show 2 ≤ 8; omega) hsh.1 hsh.2.1 hsh.2.2
    clear bk9 bk10 bk11 kt10 kt11 ho89 ho9 go1 go2 hsh
    replace pa := Lib.hid pa
    go_wp2_with fail
    refine pa.out.mono ?_
    rintro _ W13 ⟨rfl, b13⟩
    have hB13 := hB11.trans b13
    go_wp2_with fail
    refine (lives_any W13 (hS.out.below hB13)).mono ?_
    rintro _ W14 ⟨rfl, b14⟩
    go_wp2
    go_ret
    exact ⟨rfl, hB13.trans (b14.mono hB13.size)⟩

theorem walk (w : World) (hS : Sets w) (s : Nat) (hs : s < 18446744073709551616) (kind : Nat) (br ot : ByteArray) (pl : Nat) (A : Option Addr) (c : Nat) (cs : List Ch) (hki : kind < 256) (hpl : pl < 18446744073709551616) (hb : Cs w A cs) (hlc : cs.length ≤ c) (hfit : ∀ y ∈ cs, ChFit y)
    (hc : br.size ≤ reachBytes ∧ ot.size ≤ reachBytes ∧ (∀ y ∈ cs, y.k.size ≤ reachBytes ∧ y.v.size ≤ reachBytes) ∧ cs.length ≤ reachBytes) :
    Calls Tryd.prog 3 #[.int .u64 (s : Int), .agg #[.int .u8 (kind : Int), .string br, .string ot, .int .u64 (pl : Int), .slice A cs.length c]] w fun e w' => e = .returned (.bool true) ∧ Below w.heap.size w w' := by
  have hr := reachBytes_lt
  obtain ⟨h1, h2, h3, h4⟩ := hc
  exact walk0 w hS s hs kind br ot pl A c cs hpl hb hfit (by omega) (by omega) (by omega) (fun y hy => by have := h3 y hy; omega)

theorem sets_of4 {W : World} (h : laidMetH Tryd.prog Rows.opsPutRow.laid W) : Sets W := by
  have h2 := laidMetH.filter (fun x => x.1 == "herbarium/ops.sets") h
  have e : List.filter (fun x : String × DataW Unit => x.1 == "herbarium/ops.sets") Rows.opsPutRow.laid = [("herbarium/ops.sets", Rows.laid_herbarium_ops_sets)] := by kernel_rfl
  rw [e] at h2
  exact sets_of h2

/-! ### from the walk to the statement (by tail.py) -/
set_option maxRecDepth 100000 in
theorem door_met (os : Os) (args : Array Value) : laidMetH Tryd.prog Rows.opsPutRow.laid ((World.doorLaid Tryd.prog 29 os).forCall (fun _ _ => 0) ⟨#[], args, []⟩).memory :=
  laidMetH_of_parts3 (fuel := 8) (laidMet_of_run' 8 (by kernel_rfl) (by kernel_rfl)) (by kernel_rfl) (by kernel_rfl)
set_option maxRecDepth 100000 in
theorem lifted (os : Os) (started : os.Started) (H : Type) (enc : TypeId × Value → H) :
    ReturnsInHanded {} Tryd.checked os 3 .any (fun w args => (Rows.opsPutSpec.pre enc Tryd.prog Tryd.f3 [] false w args ∧ laidMetH Tryd.prog Rows.opsPutRow.laid w) ∧ sizedMet enc Tryd.prog Tryd.f3 (OpenSpec.ofChange Rows.opsPutSpec) false w args) (Rows.opsPutSpec.post enc Tryd.prog Tryd.f3 false true false false) := by
  refine lifted_of_and (C := Tryd.checked) (tb := 4) (n := 2) (X := fun w _ => laidMetH Tryd.prog Rows.opsPutRow.laid w) (fun _ _ _ hh h => h.of_heap hh) (by kernel_rfl) started (by kernel_rfl) Tryd.func3 (by kernel_rfl) (by kernel_rfl) rfl (by kernel_rfl) Tryd.underlying4 (by kernel_rfl)
    (fun ds hd => by match ds, hd with | [d1, d2], _ => exact ⟨rfl, rfl, rfl⟩)
    (ChangeSpec.witness_shaped (enc := enc) (C := Tryd.checked) (os := os) (X := fun w _ => laidMetH Tryd.prog Rows.opsPutRow.laid w) false (World.doorLaid Tryd.prog 29 os) #[.int .u64 0, .agg #[.int .u8 0, .string ByteArray.empty, .string ByteArray.empty, .int .u64 0, .slice none 0 0]] 8 rfl (World.shaped_of_RefB (by kernel_rfl) (by kernel_rfl)) (by kernel_rfl) (by kernel_rfl) (by kernel_rfl) (door_met os _)) ?_
  intro W base args ds before hval hA hsz hX
  rw [Tryd.params3] at hA hval hsz
  obtain ⟨v0, vs0, d0, ds0, p0, q0, rfl, rfl, rfl, h0, r0⟩ := trodAll_cons hA
  obtain ⟨v1, vs1, d1, ds1, p1, q1, rfl, rfl, rfl, h1, r1⟩ := trodAll_cons r0
  obtain ⟨rfl, rfl, rfl⟩ := trodAll_nil r1
  obtain ⟨x0, rfl, hx0⟩ := open_u64 Tryd.underlying22 (hval 0 _ _ rfl rfl) h0
  obtain ⟨ki1, br1, ot1, pl1, A1, c1, ls1, rfl, hki1, hpl1, hb1, hlc1, hfit1, hcap1⟩ := open_op (hval 1 _ _ rfl rfl) h1
  have hc1 := hcap1 hsz 1 rfl rfl
  exact walk W (sets_of4 hX) x0 hx0 ki1 br1 ot1 pl1 A1 c1 ls1 hki1 hpl1 hb1 hlc1 hfit1 hc1

theorem over : Rows.opsPutRow.holds Tryd.pinned (OpenSpec.ofChange Rows.opsPutSpec) :=
  OpenClaim.holds_of_wide 3 Tryd.f3 rfl rfl rfl rfl rfl rfl rfl ⟨rfl, rfl, rfl, rfl, rfl⟩ rfl rfl rfl rfl rfl (by kernel_rfl) Tryd.func3 (by kernel_rfl)
    (of_decide_eq_true (by kernel_rfl)) (by unfold Func.isWrapper; first | (rw [if_pos (by decide +kernel)]; kernel_rfl) | (rw [if_neg (by decide +kernel)]; exact ⟨rfl, rfl⟩))
    (fun os started H enc _ => lifted os started H enc)

theorem proved : Rows.OpsPutCardSaid :=
  Claim7.holds_tied_plain_at .later [] [.data, .data, .data, .data] true (true, "46d5cacd4782c602f2b9df7395970fea9243359bc8c670c610b31bfbc6d9cf21") true
    over (fun _ h => by cases h) (by kernel_rfl) (fun _ h => by cases h) opsPut_row_tie rfl ⟨rfl, rfl⟩ (by kernel_rfl) rfl
    (fun f fn hf hfn => by
      obtain rfl : f = 3 := Option.some.inj ((show Tryd.prog.funcNamed "herbarium/herbariumlaw07.OpsPut" = some 3 by kernel_rfl).symm.trans hf) |>.symm
      obtain rfl : fn = Tryd.f3 := (Option.some.inj (Tryd.func3.symm.trans hfn)).symm
      exact ⟨by kernel_rfl, fun j t ht => by
        have hall : (Tryd.f3.params.toList.all fun u => !Tryd.prog.wantsStandIn u) = true := by kernel_rfl
        have hm : t ∈ Tryd.f3.params.toList := Array.mem_toList_iff.2 (Array.mem_of_getElem? ht)
        exact (show Tryd.prog.wantsStandIn t = false by simpa using List.all_eq_true.1 hall t hm)⟩)
    (by kernel_rfl)
end Go.Proofs.YtccbldlnfaiphaaDoor.lawOpsPut
