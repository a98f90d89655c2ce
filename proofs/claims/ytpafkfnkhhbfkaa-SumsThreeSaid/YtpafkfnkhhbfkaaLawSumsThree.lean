/- The sums of three texts of one length, and that of their exclusive or, are together 0: for every input, no condition. -/
import Derived.Test.YtpafkfnkhhbfkaaSumsLives
import Derived.Test.YtpafkfnkhhbfkaaLift
import Derived.Test.YtpafkfnkhhbfkaaApp
import Derived.Test.YtpafkfnkhhbfkaaExt
import Derived.Deep.RegionHeld3
import Derived.WalkLawsBesides
set_option linter.unusedSimpArgs false
set_option linter.unusedVariables false
namespace Go.Proofs.Ytpafkfnkhhbfkaa.lawSumsThree
open Go Go.RowKit Herb Go.ChangeShapes Go.WideShapes Go.ChangeAt

/-- The exclusive or of two texts. -/
def xr (a b : List UInt8) : List UInt8 := List.zipWith (· ^^^ ·) a b
theorem val_xr : ∀ (a b : List UInt8), a.length = b.length → val (xr a b) = val a ^^^ val b
  | [], [], _ => by simp [xr, val]
  | x :: a, y :: b, h => by
    have ih := val_xr a b (by simpa using h)
    unfold xr at ih ⊢
    simp only [List.zipWith_cons_cons, val, ih, UInt8.toNat_xor]
    rw [← Nat.shiftLeft_eq, ← Nat.shiftLeft_eq, ← Nat.shiftLeft_eq, Nat.shiftLeft_xor_distrib]
    ac_rfl
  | [], _ :: _, h => by simp at h
  | _ :: _, [], h => by simp at h
theorem xr_length (a b : List UInt8) (h : a.length = b.length) : (xr a b).length = a.length := by simp [xr]; omega
theorem inv_xor (s : Nat) (hs : s < 4294967296) : 4294967295 ^^^ s = inv32 s := by
  have h := inv_bits s hs
  have h2 := u32_xor_nat 4294967295 s (by omega) hs
  have h3 : IntKind.u32.max = ((4294967295 : Nat) : Int) := by decide
  rw [h3, h2] at h
  omega
theorem more_val (l : List UInt8) : more 0 l = 4294967295 ^^^ (rep (8 * l.length) 4294967295 ^^^ rep (8 * l.length) (val l)) := by
  unfold more
  rw [← inv_xor _ (feed_lt (inv32_lt 0) l), feed_val, rep_xor]
  rfl
theorem four (M R a b c : Nat) : (((M ^^^ (R ^^^ a)) ^^^ (M ^^^ (R ^^^ b))) ^^^ (M ^^^ (R ^^^ c))) ^^^ (M ^^^ (R ^^^ (a ^^^ b ^^^ c))) = 0 := by
  apply Nat.eq_of_testBit_eq
  intro i
  simp only [Nat.testBit_xor, Nat.zero_testBit]
  cases M.testBit i <;> cases R.testBit i <;> cases a.testBit i <;> cases b.testBit i <;> cases c.testBit i <;> rfl
theorem three (a b c : List UInt8) (n : Nat) (ha : a.length = n) (hb : b.length = n) (hc : c.length = n) :
    ((more 0 a ^^^ more 0 b) ^^^ more 0 c) ^^^ more 0 (xr (xr a b) c) = 0 := by
  have h1 := xr_length a b (by omega)
  have h2 := xr_length (xr a b) c (by omega)
  rw [more_val a, more_val b, more_val c, more_val (xr (xr a b) c), val_xr _ _ (by omega), val_xr _ _ (by omega), h2, h1, ha, hb, hc, rep_xor, rep_xor]
  exact four _ _ _ _ _

theorem x8 (a b : UInt8) : bits .xor .u8 (a.toNat : Int) (b.toNat : Int) = ((a ^^^ b).toNat : Int) := by
  rw [u8_xor_nat _ _ a.toNat_lt b.toNat_lt, UInt8.toNat_xor]

set_option maxHeartbeats 1600000 in
theorem walk (w : World) (A : Option Addr) (c : Nat) (l : List UInt8) (hl : l.length ≤ 140737488355328) (hb : Bs w A l) (hlc : l.length ≤ c) (hc : c ≤ 140737488355328) (A' : Option Addr) (c' : Nat) (l' : List UInt8) (hl' : l'.length ≤ 140737488355328) (hb' : Bs w A' l') (hlc' : l'.length ≤ c') (hc' : c' ≤ 140737488355328)
    (A'' : Option Addr) (c'' : Nat) (l'' : List UInt8) (hl'' : l''.length ≤ 140737488355328) (hb'' : Bs w A'' l'') (hlc'' : l''.length ≤ c'') (hc'' : c'' ≤ 140737488355328) :
    Calls Try.prog 6 #[.slice A l.length c, .slice A' l'.length c', .slice A'' l''.length c''] w fun e w' => e = .returned (.bool true) ∧ Below w.heap.size w w' := by
  obtain ⟨n, hn, h1, h2, h3, h4⟩ : ∃ n : Nat, min (min (min (l.length : Int) (l'.length : Int)) (l''.length : Int)) 50000 = (n : Int) ∧ n ≤ l.length ∧ n ≤ l'.length ∧ n ≤ l''.length ∧ n ≤ 50000 :=
    ⟨min (min (min l.length l'.length) l''.length) 50000, by omega, by omega, by omega, by omega, by omega⟩
  have hmin := run_min4 (P := Try.prog) #[3, 3, 3, 3] 3 .i64 l.length l'.length l''.length 50000 w
  rw [hn] at hmin
  clear hn
  go_enter Try.func6, Try.ntmps6
  go_wp2
  clear hmin
  go_loopw [8, 9] (fun v i wr => ∃ k : Nat, k ≤ n ∧ i = .int .i64 k ∧ wr.ownsRow w.heap.size 5 1 v k (bvs ((xr (xr (l.take n) (l'.take n)) (l''.take n)).take k)) ∧ Below w.heap.size w wr) (fun _ i _ => n - (intOf i).toNat)
  case atStart => exact ⟨0, by omega, rfl, World.ownsRow_nil _ _ _ _, Below.refl _ _⟩
  case round =>
    obtain ⟨k, hk, rfl, hown, hbel⟩ := hrel
    by_cases hlt : k < n
    · obtain ⟨b0, off0, rfl, q0, hc0⟩ := hb.at_ (show k < l.length by omega)
      obtain ⟨b1, off1, rfl, q1, hc1⟩ := hb'.at_ (show k < l'.length by omega)
      obtain ⟨b2, off2, rfl, q2, hc2⟩ := hb''.at_ (show k < l''.length by omega)
      have e0 := Lib.hid (hc0 k (by omega))
      have e1 := Lib.hid (hc1 k (by omega))
      have e2 := Lib.hid (hc2 k (by omega))
      obtain ⟨y, hy, hx1⟩ : ∃ y : UInt8, Hid (y = (l[k]'(by omega)) ^^^ (l'[k]'(by omega))) ∧ bits .xor .u8 ((l[k]'(by omega)).toNat : Int) ((l'[k]'(by omega)).toNat : Int) = (y.toNat : Int) := ⟨_, Lib.hid rfl, x8 _ _⟩
      obtain ⟨z, hz, hx2⟩ : ∃ z : UInt8, Hid (z = y ^^^ (l''[k]'(by omega))) ∧ bits .xor .u8 (y.toNat : Int) ((l''[k]'(by omega)).toNat : Int) = (z.toNat : Int) := ⟨_, Lib.hid rfl, x8 _ _⟩
      have hi0 : (k : Int) < (l.length : Int) := by omega
      have hi1 : (k : Int) < (l'.length : Int) := by omega
      have hi2 : (k : Int) < (l''.length : Int) := by omega
      clear hc0 hc1 hc2
      go_wp2
      have hown1 := (hown.alloc (.cells #[.int .u8 (z.toNat : Int)] 5)).drew
      have hbel1 := (hbel.alloc hbel.size (.cells #[.int .u8 (z.toNat : Int)] 5)).drew
      have hone := (Rd.one wr 5 (.int .u8 (z.toNat : Int))).drew
      go_region_held3 (fun w' => w'.cell? ⟨b0, off0 + k, none⟩ = some (.int .u8 ((l[k]'(by omega)).toNat : Int)) ∧ w'.cell? ⟨b1, off1 + k, none⟩ = some (.int .u8 ((l'[k]'(by omega)).toNat : Int)) ∧ w'.cell? ⟨b2, off2 + k, none⟩ = some (.int .u8 ((l''[k]'(by omega)).toNat : Int)) ∧ Below w.heap.size w w')
        (first | (have h := hbel.drew; exact ⟨(h.cell q0).trans e0.out, (h.cell q1).trans e1.out, (h.cell q2).trans e2.out, h⟩) | (have h := hbel1; exact ⟨(h.cell q0).trans e0.out, (h.cell q1).trans e1.out, (h.cell q2).trans e2.out, h⟩) | (have h := hb3; exact ⟨(h.cell q0).trans e0.out, (h.cell q1).trans e1.out, (h.cell q2).trans e2.out, h⟩))
        (first | (refine step_app (wr.alloc _).drew rfl (.tmp 22) (.tmp 37) rfl Try.underlying22 info_u8 rfl (by omega) hown1 rfl (some ⟨wr.heap.size, 0, none⟩) 1 1 hone rfl (oneCell_one rfl) (by unfold maxLen; omega) (by omega) (by have := hbel.size; simp; omega) ?_; intro v1 w3 hown3 hgrow3 _; have hb3 := below_app hbel1 hown1 (Nat.le_refl _) (by have := hbel.size; simp; omega) hgrow3))
      rw [bvs_take_snoc _ _ (by simp [xr]; omega) _ (by rw [hz.out, hy.out]; simp [xr])] at hown3
      go_wp2
      go_roundw
      case rel => exact ⟨k + 1, by omega, by go_num, hown3, hb3⟩
      case measure => simp [intOf]; omega
    · obtain rfl : k = n := by omega
      obtain ⟨Ad, cd, hv⟩ := own_slice hown
      subst hv
      have hbd := (Bs.of_own hown).2
      have hld : (xr (xr (l.take k) (l'.take k)) (l''.take k)).length = k := by simp [xr]; omega
      rw [List.take_of_length_le (by omega)] at hbd
      have h30 := three (l.take k) (l'.take k) (l''.take k) k (by simp; omega) (by simp; omega) (by simp; omega)
      generalize xr (xr (l.take k) (l'.take k)) (l''.take k) = d at *
      have e1 := u32_xor_nat (more 0 (l.take k)) (more 0 (l'.take k)) (more_lt _ _) (more_lt _ _)
      have e2 := u32_xor_nat (more 0 (l.take k) ^^^ more 0 (l'.take k)) (more 0 (l''.take k)) (Nat.xor_lt_two_pow (n := 32) (more_lt _ _) (more_lt _ _)) (more_lt _ _)
      have e3 := u32_xor_nat ((more 0 (l.take k) ^^^ more 0 (l'.take k)) ^^^ more 0 (l''.take k)) (more 0 d) (Nat.xor_lt_two_pow (n := 32) (Nat.xor_lt_two_pow (n := 32) (more_lt _ _) (more_lt _ _)) (more_lt _ _)) (more_lt _ _)
      rw [h30] at e3
      have hB := hb.below hbel
      have hB' := hb'.below hbel
      have hB'' := hb''.below hbel
      have HC0 := Lib.hid (fun x : Ext wr.heap.size wr => ext_call (Nat.le_refl _) x (of_at x.1 A k c (l.take k) (by simp; omega) (by omega) ((hB.take k).below x.2)))
      have HC1 := Lib.hid (fun x : Ext wr.heap.size wr => ext_call (Nat.le_refl _) x (of_at x.1 A' k c' (l'.take k) (by simp; omega) (by omega) ((hB'.take k).below x.2)))
      have HC2 := Lib.hid (fun x : Ext wr.heap.size wr => ext_call (Nat.le_refl _) x (of_at x.1 A'' k c'' (l''.take k) (by simp; omega) (by omega) ((hB''.take k).below x.2)))
      have HC3 := Lib.hid (fun x : Ext wr.heap.size wr => ext_call (Nat.le_refl _) x (of_at x.1 Ad k cd d hld (by omega) (hbd.below x.2)))
      have HCL := Lib.hid (fun x : Ext wr.heap.size wr => ext_call (Nat.le_refl _) x (lives_any x.1))
      clear hb hb' hb'' hB hB' hB'' h30 hown hbd hld
      go_wp2
      refine wp_region_ext wr.heap.size (by kernel_rfl) (by kernel_rfl) ?_
      repeat (go_big_quiet_step (first | (go_at_call 8; with_reducible exact HCL.out _) | (go_at_call 10; with_reducible exact HC0.out _) | (go_at_call 10; with_reducible exact HC1.out _) | (go_at_call 10; with_reducible exact HC2.out _) | (go_at_call 10; with_reducible exact HC3.out _)))
      refine wpQuiet_nil ?_
      rintro _ ⟨x, rfl⟩
      have hx := hbel.trans (x.2.mono hbel.size)
      generalize x.1 = wz at *
      go_wp2
      go_ret
      exact ⟨rfl, hx⟩

/-! ### from the walk to the statement (by tail.py) -/
set_option maxRecDepth 100000 in
theorem lifted (os : Os) (started : os.Started) (H : Type) (enc : TypeId × Value → H) :
    ReturnsInHanded {} Try.checked os 6 .any (Rows.sumsThreeSpec.pre6 enc Try.prog Try.f6 Rows.sumsThreeRow.domain false) (Rows.sumsThreeSpec.post enc Try.prog Try.f6 false true false false) := by
  refine lifted_of (C := Try.checked) (tb := 4) (n := 3) (by kernel_rfl) started (by kernel_rfl) Try.func6 (by kernel_rfl) (by kernel_rfl) rfl (by kernel_rfl) Try.underlying4 (by kernel_rfl)
    (fun ds hd => by match ds, hd with | [d1, d2, d3], _ => exact ⟨rfl, rfl, rfl⟩)
    (ChangeSpec.witness6 (enc := enc) (C := Try.checked) false ⟨#[], #[.slice none 0 0, .slice none 0 0, .slice none 0 0], []⟩ 8 (by kernel_rfl) (by kernel_rfl) (by kernel_rfl) (by kernel_rfl)) ?_
  intro W base args ds before hval hA hsz
  rw [Try.params6] at hA hval hsz
  obtain ⟨v0, vs0, d0, ds0, p0, q0, rfl, rfl, rfl, h0, r0⟩ := trodAll_cons hA
  obtain ⟨v1, vs1, d1, ds1, p1, q1, rfl, rfl, rfl, h1, r1⟩ := trodAll_cons r0
  obtain ⟨v2, vs2, d2, ds2, p2, q2, rfl, rfl, rfl, h2, r2⟩ := trodAll_cons r1
  obtain ⟨rfl, rfl, rfl⟩ := trodAll_nil r2
  obtain ⟨A0, c0, l0, rfl, hb0, hlc0, _, hcap0⟩ := open_bytes Try.underlying22 Try.underlying5 (by kernel_rfl) (by kernel_rfl) (hval 0 _ _ rfl rfl) h0
  have hc0 := hcap0 hsz 0 rfl rfl
  obtain ⟨A1, c1, l1, rfl, hb1, hlc1, _, hcap1⟩ := open_bytes Try.underlying22 Try.underlying5 (by kernel_rfl) (by kernel_rfl) (hval 1 _ _ rfl rfl) h1
  have hc1 := hcap1 hsz 1 rfl rfl
  obtain ⟨A2, c2, l2, rfl, hb2, hlc2, _, hcap2⟩ := open_bytes Try.underlying22 Try.underlying5 (by kernel_rfl) (by kernel_rfl) (hval 2 _ _ rfl rfl) h2
  have hc2 := hcap2 hsz 2 rfl rfl
  exact walk W A0 c0 l0 (by have := reachBytes_lt; omega) hb0 hlc0 (by have := reachBytes_lt; omega) A1 c1 l1 (by have := reachBytes_lt; omega) hb1 hlc1 (by have := reachBytes_lt; omega) A2 c2 l2 (by have := reachBytes_lt; omega) hb2 hlc2 (by have := reachBytes_lt; omega)

theorem over : Rows.sumsThreeRow.holds Try.pinned (OpenSpec.ofChange Rows.sumsThreeSpec) :=
  OpenClaim.holds_of_wide 6 Try.f6 rfl rfl rfl rfl rfl rfl rfl ⟨rfl, rfl, rfl, rfl, rfl⟩ rfl rfl rfl rfl rfl (by kernel_rfl) Try.func6 (by kernel_rfl)
    (of_decide_eq_true (by kernel_rfl)) (by unfold Func.isWrapper; first | (rw [if_pos (by decide +kernel)]; kernel_rfl) | (rw [if_neg (by decide +kernel)]; exact ⟨rfl, rfl⟩))
    (fun os started H enc _ => lifted os started H enc)

theorem proved : Rows.SumsThreeSaid := over
end Go.Proofs.Ytpafkfnkhhbfkaa.lawSumsThree
