/- Walk of frames.Get. -/
import Derived.Test.YtnjihcjijicgpaaDoorFrPut
import Derived.Test.YtnjihcjijicgpaaDoorStill
import Derived.Test.YtnjihcjijicgpaaDoorCut
import Derived.WalkMore
import Derived.ScopeJumps
import Derived.Deep.RegionHeld3
import Derived.Laws.StructEq
import Derived.Laws.Cover3
import Derived.IntWalk
set_option linter.unusedSimpArgs false
set_option linter.unusedVariables false
namespace Herb
open Go Go.RowKit
/-- As Q; by a goto to label 0: J0, to label 1: J1. -/
def Exit2 (J0 J1 : Act → World → Prop) (Q : Exit → Act → World → Prop) : Exit → Act → World → Prop
  | .goto l, a, w => (l = 0 ∧ J0 a w) ∨ (l = 1 ∧ J1 a w)
  | e, a, w => Q e a w
theorem Exit2_normal (J0 J1 : Act → World → Prop) (Q : Exit → Act → World → Prop) (a : Act) (w : World) : Exit2 J0 J1 Q .normal a w = Q .normal a w := rfl
theorem Exit2_exit (J0 J1 : Act → World → Prop) (Q : Exit → Act → World → Prop) (a : Act) (w : World) (i : Nat) : Exit2 J0 J1 Q (.exit i) a w = Q (.exit i) a w := rfl
theorem Exit2_ret (J0 J1 : Act → World → Prop) (Q : Exit → Act → World → Prop) (a : Act) (w : World) : Exit2 J0 J1 Q .ret a w = Q .ret a w := rfl
theorem Exit2_panic (J0 J1 : Act → World → Prop) (Q : Exit → Act → World → Prop) (a : Act) (w : World) (c : List PanicEntry) : Exit2 J0 J1 Q (.panic c) a w = Q (.panic c) a w := rfl
/-- A scope with two labels: 0 is jumped to once, at the end; 1 begins a round. -/
theorem wp_scope_two {P : Program} {a : Act} {w : World} {Q : Exit → Act → World → Prop} {c r0 R : Code} (J0 J1 : Act → World → Prop) (μ : Act → World → Nat) (h0 : findLabel c 0 = some r0) (h1 : findLabel c 1 = some (.seq .skip R))
    (pass0 : ∀ a w, J0 a w → r0.wp P (Exit2 (fun _ _ => False) (fun _ _ => False) Q) a w)
    (pass1 : ∀ a w, J1 a w → R.wp P (Exit2 J0 (fun a' w' => J1 a' w' ∧ μ a' w' < μ a w) Q) a w)
    (first : (∀ a w, J1 a w → R.wp P (Exit2 J0 J1 Q) a w) → c.wp P (Exit2 J0 J1 Q) a w) : (Code.scope c).wp P Q a w := by
  have hR : ∀ a w, J1 a w → R.wp P (Exit2 J0 J1 Q) a w := fun a w h => wp_mono (pass1 a w h) fun e a' w' q => by
    cases e with
    | goto l => exact q.imp id (fun ⟨h1, h2, _⟩ => ⟨h1, h2⟩)
    | normal => exact q
    | exit i => exact q
    | ret => exact q
    | panic c => exact q
    | outgrown => exact q
  intro b k cs
  have g0 : gotoIn 0 (.inScope c :: k) = some (.code r0 :: .inScope c :: k) := by simp [gotoIn, h0]
  have g1 : gotoIn 1 (.inScope c :: k) = some (.code (.seq .skip R) :: .inScope c :: k) := by simp [gotoIn, h1]
  have key0 : ∀ a w, J0 a w → ∃ e a' w', Q e a' w' ∧ Arrives P (lone (b.at a (.code r0 :: .inScope c :: k)) cs w) b k cs e a' w' := by
    intro a w hJ
    obtain ⟨e, a₁, w₁, hq, harr⟩ := pass0 a w hJ b (.inScope c :: k) cs
    cases e with
    | normal => exact ⟨.normal, a₁, w₁, hq, Steps.trans harr (.one step_inScope)⟩
    | exit id => exact ⟨.exit id, a₁, w₁, hq, fun k' hk => harr k' (by simp [exitTo, hk])⟩
    | goto l' => rcases hq with ⟨_, h⟩ | ⟨_, h⟩ <;> exact h.elim
    | ret => exact ⟨_, a₁, w₁, hq, harr⟩
    | panic ch => exact ⟨_, a₁, w₁, hq, harr⟩
    | outgrown => exact ⟨_, a₁, w₁, hq, harr⟩
  have key : ∀ n a w, μ a w = n → J1 a w → ∃ e a' w', Q e a' w' ∧ Arrives P (lone (b.at a (.code (.seq .skip R) :: .inScope c :: k)) cs w) b k cs e a' w' := by
    intro n
    induction n using Nat.strongRecOn with
    | _ n ih =>
      intro a w hn hJ
      have hs : (Code.seq .skip R).wp P (Exit2 J0 (fun a' w' => J1 a' w' ∧ μ a' w' < μ a w) Q) a w := wp_seq (wp_skip (pass1 a w hJ))
      obtain ⟨e, a₁, w₁, hq, harr⟩ := hs b (.inScope c :: k) cs
      cases e with
      | normal => exact ⟨.normal, a₁, w₁, hq, Steps.trans harr (.one step_inScope)⟩
      | exit id => exact ⟨.exit id, a₁, w₁, hq, fun k' hk => harr k' (by simp [exitTo, hk])⟩
      | goto l' =>
        rcases hq with ⟨rfl, hJ'⟩ | ⟨rfl, hJ', hlt⟩
        · obtain ⟨e₂, a₂, w₂, hq₂, harr₂⟩ := key0 a₁ w₁ hJ'
          exact ⟨e₂, a₂, w₂, hq₂, .of_steps (harr _ g0) harr₂⟩
        · obtain ⟨e₂, a₂, w₂, hq₂, harr₂⟩ := ih _ (by omega) a₁ w₁ rfl hJ'
          exact ⟨e₂, a₂, w₂, hq₂, .of_steps (harr _ g1) harr₂⟩
      | ret => exact ⟨_, a₁, w₁, hq, harr⟩
      | panic ch => exact ⟨_, a₁, w₁, hq, harr⟩
      | outgrown => exact ⟨_, a₁, w₁, hq, harr⟩
  obtain ⟨e, a₁, w₁, hq, harr⟩ := first hR b (.inScope c :: k) cs
  cases e with
  | normal => exact ⟨.normal, a₁, w₁, hq, .head step_scope (Steps.trans harr (.one step_inScope))⟩
  | exit id => exact ⟨.exit id, a₁, w₁, hq, fun k' hk => .head step_scope (harr k' (by simp [exitTo, hk]))⟩
  | goto l' =>
    rcases hq with ⟨rfl, hJ'⟩ | ⟨rfl, hJ'⟩
    · obtain ⟨e₂, a₂, w₂, hq₂, harr₂⟩ := key0 a₁ w₁ hJ'
      exact ⟨e₂, a₂, w₂, hq₂, .of_steps (.head step_scope (harr _ g0)) harr₂⟩
    · obtain ⟨e₂, a₂, w₂, hq₂, harr₂⟩ := key _ a₁ w₁ rfl hJ'
      exact ⟨e₂, a₂, w₂, hq₂, .of_steps (.head step_scope (harr _ g1)) harr₂⟩
  | ret => exact ⟨_, a₁, w₁, hq, .of_steps (.one step_scope) harr⟩
  | panic ch => exact ⟨_, a₁, w₁, hq, .of_steps (.one step_scope) harr⟩
  | outgrown => exact ⟨_, a₁, w₁, hq, .of_steps (.one step_scope) harr⟩
end Herb
namespace Go.Proofs.YtnjihcjijicgpaaDoor
open Go Go.RowKit Herb
attribute [local go_sem] Exit2_normal Exit2_exit Exit2_ret Exit2_panic

theorem get_bad (w : World) (A : Option Addr) (n c : Nat) (p : Int) (h : p < 0 ∨ (n : Int) < p) :
    Calls Tryd.prog 13 #[.slice A n c, .int .i64 p] w fun e w' => e = .returned (.tuple #[.slice none 0 0, .int .i64 0, .int .i64 1]) ∧ w = w' := by
  by_cases h1 : p < 0
  · have d : decide (p < 0) = true := decide_eq_true h1
    go_enter Tryd.func13, Tryd.ntmps13
    go_wp2
    go_step3
    go_wp2
    rw [Exit.noGoto_ret]
    go_ret3
    exact ⟨rfl, rfl⟩
  · have d : decide (p < 0) = false := decide_eq_false h1
    have d2 : decide ((n : Int) < p) = true := decide_eq_true (by omega)
    go_enter Tryd.func13, Tryd.ntmps13
    go_wp2
    go_step3
    go_wp2
    rw [Exit.noGoto_ret]
    go_ret3
    exact ⟨rfl, rfl⟩
theorem u8_size : (Tryd.prog.info? 5).map (·.size) = some 1 := by kernel_rfl
theorem eq4 (a0 a1 a2 a3 b0 b1 b2 b3 : Int) (W : World) : (Op.equalIn 10000 61 (.agg #[.int .u8 a0, .int .u8 a1, .int .u8 a2, .int .u8 a3]) (.agg #[.int .u8 b0, .int .u8 b1, .int .u8 b2, .int .u8 b3])).run Tryd.prog W = .ok (a0 == b0 && a1 == b1 && a2 == b2 && a3 == b3) W := by
  have hu := Tryd.underlying61
  have he := Tryd.underlying5
  have c8 : Tryd.prog.cellsOf 5 = 1 := by kernel_rfl
  obtain ⟨i, hi, hs⟩ : ∃ i, Tryd.prog.info? 5 = some i ∧ i.size = 1 := by
    have hs := u8_size
    cases h : Tryd.prog.info? 5 with
    | none => simp [h] at hs
    | some i => exact ⟨i, rfl, by simpa [h] using hs⟩
  show (Op.equalIn (9999 + 1) _ _ _).run _ _ = _
  unfold Op.equalIn
  have e : ∀ (a b : Int) (w : World), (Op.equalIn 9999 5 (.int .u8 a) (.int .u8 b)).run Tryd.prog w = .ok (a == b) w := fun a b w => run_equalIn_int (P := Tryd.prog) w 9998 5 .u8 .u8 a b he
  have pt : ∀ (cs : Array Value) (k : Nat) (v : Value) (w : World), cs[k]? = some v → (part 5 cs k).run Tryd.prog w = .ok v w := fun cs k v w h => by
    simp [part, isAgg, run_underlying he, h]
  have pa0 := fun w => pt #[.int .u8 a0, .int .u8 a1, .int .u8 a2, .int .u8 a3] 0 _ w rfl
  have pa1 := fun w => pt #[.int .u8 a0, .int .u8 a1, .int .u8 a2, .int .u8 a3] 1 _ w rfl
  have pa2 := fun w => pt #[.int .u8 a0, .int .u8 a1, .int .u8 a2, .int .u8 a3] 2 _ w rfl
  have pa3 := fun w => pt #[.int .u8 a0, .int .u8 a1, .int .u8 a2, .int .u8 a3] 3 _ w rfl
  have pb0 := fun w => pt #[.int .u8 b0, .int .u8 b1, .int .u8 b2, .int .u8 b3] 0 _ w rfl
  have pb1 := fun w => pt #[.int .u8 b0, .int .u8 b1, .int .u8 b2, .int .u8 b3] 1 _ w rfl
  have pb2 := fun w => pt #[.int .u8 b0, .int .u8 b1, .int .u8 b2, .int .u8 b3] 2 _ w rfl
  have pb3 := fun w => pt #[.int .u8 b0, .int .u8 b1, .int .u8 b2, .int .u8 b3] 3 _ w rfl
  simp [run_underlying hu, Go.sizeOf, typeInfo, hi, hs, Std.Legacy.Range.forIn_eq_forIn_range', List.range', pa0, pa1, pa2, pa3, pb0, pb1, pb2, pb3, e]
  by_cases h0 : a0 = b0 <;> by_cases h1 : a1 = b1 <;> by_cases h2 : a2 = b2 <;> by_cases h3 : a3 = b3 <;> simp [h0, h1, h2, h3]
theorem le4_eq (S : Nat) (hS : S < 4294967296) (x0 x1 x2 x3 : UInt8) (z : Bool) (h : ((S : Int) % 256 == (x0.toNat : Int) && (S : Int) / 256 % 256 == (x1.toNat : Int) && (S : Int) / 65536 % 256 == (x2.toNat : Int) && (S : Int) / 16777216 == (x3.toNat : Int)) = z) :
    (z = true → Fr.le4 S = [x0, x1, x2, x3]) ∧ (z = false → Fr.le4 S ≠ [x0, x1, x2, x3]) := by
  subst h
  constructor
  · intro h
    simp only [Bool.and_eq_true, beq_iff_eq] at h
    obtain ⟨⟨⟨h0, h1⟩, h2⟩, h3⟩ := h
    unfold Fr.le4
    have e : ∀ (n : Nat) (c : UInt8), (n : Int) % 256 = (c.toNat : Int) → UInt8.ofNat n = c := fun n c h => UInt8.toNat_inj.1 (by rw [UInt8.toNat_ofNat']; omega)
    rw [e S x0 h0, e (S / 256) x1 (by omega), e (S / 65536) x2 (by omega), e (S / 16777216) x3 (by omega)]
  · intro h hl
    rw [Bool.eq_false_iff] at h
    apply h
    unfold Fr.le4 at hl
    injection hl with h0 hl
    injection hl with h1 hl
    injection hl with h2 hl
    injection hl with h3 _
    rw [← h0, ← h1, ← h2, ← h3]
    simp only [UInt8.toNat_ofNat', Bool.and_eq_true, beq_iff_eq]
    refine ⟨⟨⟨?_, ?_⟩, ?_⟩, ?_⟩ <;> omega
theorem get_noughts (w : World) (A : Option Addr) (n c : Nat) (l : List UInt8) (hl : l.length = n) (hn : n ≤ 1000000) (hnc : n ≤ c) (hb : Bs w A l) (p : Nat) (hp : p ≤ n) (A' : Option Addr) (c' : Nat)
    (hz : Fr.allZ (l.drop p) = true) :
    Calls Tryd.prog 13 #[.slice A n c, .int .i64 (p : Int)] w fun e w' => e = .returned (.tuple #[.slice none 0 0, .int .i64 0, .int .i64 7]) ∧ w = w' := by
  have d : decide ((p : Int) < 0) = false := decide_eq_false (by omega)
  have d2 : decide (n < p) = false := decide_eq_false (by omega)
  have kc := run_cut_from (P := Tryd.prog) Tryd.underlying22 u8_size A n c p hp
  have pn := noughts_any w (cutA A c p) (n - p) (c - p) (l.drop p) (by rw [List.length_drop, hl]) (by omega) (hb.cutA_from (by omega) (by omega)) true hz
  replace pn := Lib.hid pn
  clear hz
  go_enter Tryd.func13, Tryd.ntmps13
  go_wp2
  go_step3
  go_wp2_with fail
  refine pn.out.mono ?_
  rintro _ _ ⟨rfl, rfl⟩
  go_wp2
  rw [Exit.noGoto_ret]
  go_ret3
  exact ⟨rfl, rfl⟩

/-! ### the walk (gen_frget.py) -/
/-- The frames at the two labels: what the slots hold that are not read is told by u. -/
abbrev getF0 (w : World) (A : Option Addr) (n c p0 E : Nat) (u : Nat → Value) : Array Value := #[.slice A n c, u 1, undef, undef, u 4, .int .i64 0, .int .i64 (E : Int), u 7, .pointer (some ⟨w.heap.size, 0, none⟩), u 9, u 10, u 11, .int .i64 (p0 : Int), .bool false, .bool false, .int .i64 (p0 : Int), .slice A n c, .int .i64 (n : Int), .bool false, .bool false, .slice A n c, .int .i64 (p0 : Int), .slice (cutA A c p0) (n - p0) (c - p0), .bool false, u 24, u 25, u 26, u 27, u 28, u 29, u 30, u 31, u 32, u 33, u 34, u 35, u 36, u 37, u 38, u 39, u 40, u 41, u 42, u 43, u 44, u 45, u 46, u 47, u 48, u 49, u 50, u 51, u 52, u 53, u 54, u 55, u 56, u 57, u 58, u 59, u 60, u 61, u 62, u 63, u 64, u 65, u 66, u 67, u 68, u 69, u 70, u 71, u 72, u 73, u 74, u 75, u 76, u 77, u 78, u 79, u 80, u 81, u 82, u 83, u 84, u 85, u 86, u 87, u 88, u 89, u 90, u 91, u 92, u 93, u 94, u 95, u 96, u 97, u 98, u 99, u 100, u 101, u 102, u 103, u 104, u 105, u 106, u 107, u 108, u 109, u 110, u 111, u 112, u 113, u 114, u 115, u 116, u 117, u 118, u 119, u 120, u 121, u 122]
abbrev getF1 (w : World) (A : Option Addr) (n c p0 q m c4 : Nat) (g : Bool) (A4 : Option Addr) (u : Nat → Value) : Array Value := #[.slice A n c, .int .i64 (q : Int), undef, undef, .slice A4 m c4, .int .i64 0, .int .i64 0, .bool g, .pointer (some ⟨w.heap.size, 0, none⟩), u 9, u 10, u 11, .int .i64 (p0 : Int), .bool false, .bool false, .int .i64 (p0 : Int), .slice A n c, .int .i64 (n : Int), .bool false, .bool false, .slice A n c, .int .i64 (p0 : Int), .slice (cutA A c p0) (n - p0) (c - p0), .bool false, u 24, u 25, u 26, u 27, u 28, u 29, u 30, u 31, u 32, u 33, u 34, u 35, u 36, u 37, u 38, u 39, u 40, u 41, u 42, u 43, u 44, u 45, u 46, u 47, u 48, u 49, u 50, u 51, u 52, u 53, u 54, u 55, u 56, u 57, u 58, u 59, u 60, u 61, u 62, u 63, u 64, u 65, u 66, u 67, u 68, u 69, u 70, u 71, u 72, u 73, u 74, u 75, u 76, u 77, u 78, u 79, u 80, u 81, u 82, u 83, u 84, u 85, u 86, u 87, u 88, u 89, u 90, u 91, u 92, u 93, u 94, u 95, u 96, u 97, u 98, u 99, u 100, u 101, u 102, u 103, u 104, u 105, u 106, u 107, u 108, u 109, u 110, u 111, u 112, u 113, u 114, u 115, u 116, u 117, u 118, u 119, u 120, u 121, u 122]
/-- At the label 'refused'. -/
def GetJ0 (w : World) (A : Option Addr) (n c p0 : Nat) (x : List UInt8) (ne er : Nat) (a' : Act) (w' : World) : Prop :=
  ∃ E : Nat, a' = { tmps := getF0 w A n c p0 E (fun k => a'.tmps.toList.getD k undef), defers := [] } ∧ x = [] ∧ ne = 0 ∧ er = E ∧ Below w.heap.size w w'
/-- At the label 'part'. -/
def GetJ1 (w : World) (A : Option Addr) (n c p0 : Nat) (l x : List UInt8) (ne er : Nat) (a' : Act) (w' : World) : Prop :=
  ∃ (fu q m c4 : Nat) (g : Bool) (acc : List UInt8) (C : Array Value) (A4 : Option Addr), a' = { tmps := getF1 w A n c p0 q m c4 g A4 (fun k => a'.tmps.toList.getD k undef), defers := [] }
    ∧ Fr.getF fu l q g acc = (x, ne, er) ∧ n < q + fu ∧ q ≤ n ∧ acc.length = m ∧ m ≤ q ∧ w'.ownsRow (w.heap.size + 1) 5 1 (.slice A4 m c4) m (bvs acc) ∧ Blk w' w.heap.size 42 C ∧ C.size = 7 ∧ Below w.heap.size w w'
def getMu (n : Nat) (a : Act) (_ : World) : Nat := n - (intOf (a.tmps.getD 1 undef)).toNat
set_option maxRecDepth 100000 in
set_option maxHeartbeats 40000000 in
theorem get_any (w : World) (A : Option Addr) (n c : Nat) (l : List UInt8) (hl : l.length = n) (hn : n ≤ 1000000) (hnc : n ≤ c) (hb : Bs w A l) (p0 : Nat) (hp : p0 ≤ n)
    (hz : Fr.allZ (l.drop p0) = false) (x : List UInt8) (ne er : Nat) (hres : Fr.getF (n + 1) l p0 false [] = (x, ne, er)) :
    Calls Tryd.prog 13 #[.slice A n c, .int .i64 (p0 : Int)] w fun e w' => ∃ A' k cap, e = .returned (.tuple #[.slice A' k k, .int .i64 (ne : Int), .int .i64 (er : Int)]) ∧ x.length = k ∧ w'.ownsRow w.heap.size 5 1 (.slice A' k cap) k (bvs x) ∧ Below w.heap.size w w' := by
  have d : decide ((p0 : Int) < 0) = false := decide_eq_false (by omega)
  have d2 : decide (n < p0) = false := decide_eq_false (by omega)
  have kc := run_cut_from (P := Tryd.prog) Tryd.underlying22 u8_size A n c p0 hp
  have pn := noughts_any w (cutA A c p0) (n - p0) (c - p0) (l.drop p0) (by rw [List.length_drop, hl]) (by omega) (hb.cutA_from (by omega) (by omega)) false hz
  replace pn := Lib.hid pn
  replace hl := Lib.hid hl
  replace hres := Lib.hid hres
  clear hz
  go_enter Tryd.func13, Tryd.ntmps13
  go_wp2
  refine wp_scope_two (GetJ0 w A n c p0 x ne er) (GetJ1 w A n c p0 l x ne er) (getMu n) rfl rfl ?pass0 ?pass1 ?first
  case first =>
    intro hR
    go_wp2_with fail
    refine pn.out.mono ?_
    rintro _ _ ⟨rfl, rfl⟩
    clear pn
    go_wp2_with fail
    go_step3
    rename_i hKK
    refine hKK _ _ (hR _ _ ?_)
    exact ⟨n + 1, p0, 0, 0, false, [], _, none, rfl, hres.out, by omega, hp, rfl, by omega, World.ownsRow_nil _ _ _ _, Blk.new w 42 _, rfl, (Below.refl w.heap.size w).alloc (Nat.le_refl _) _⟩
  case pass0 =>
    rintro a' W ⟨E, hfr, rfl, rfl, rfl, hB⟩
    generalize (fun k => a'.tmps.toList.getD k undef) = u at hfr
    subst hfr
    dsimp only [getF0]
    clear pn hres
    go_wp2
    rw [Exit2_ret]
    go_ret3
    exact ⟨none, 0, 0, rfl, rfl, World.ownsRow_nil _ _ _ _, hB⟩
  case pass1 =>
    rintro a' wr ⟨fu, q, m, c4, g, acc, C, A4, hfr, hgF, hfu, hq, hm, hmq, hown, hK, hC, hB⟩
    generalize (fun k => a'.tmps.toList.getD k undef) = u at hfr
    subst hfr
    dsimp only [getF1]
    clear pn hres kc hp
    obtain ⟨fu', rfl⟩ : ∃ fu', fu = fu' + 1 := ⟨fu - 1, by omega⟩
    replace hgF := Lib.hid hgF
    replace hm := Lib.hid hm
    replace hC := Lib.hid hC
    have hql : q ≤ l.length := by rw [hl.out]; exact hq
    have hKlt := hK.lt
    have hgl := Fr.gap_le q
    have hgeo := Fr.geo q
    have err : ∀ e, Fr.step l q g acc.length = .inl e → x = [] ∧ ne = 0 ∧ er = e := fun e he => by
      have h := hgF.out
      rw [Fr.getF_inl _ _ _ _ _ e he] at h
      injection h with h1 h
      injection h with h2 h3
      exact ⟨h1.symm, h2.symm, h3.symm⟩
    replace err := Lib.hid err
    obtain ⟨L, hLe⟩ : ∃ L, 256 - q % 256 = L := ⟨_, rfl⟩
    have cl := fun W => left_at (q : Int) q L rfl hLe (by omega) W
    obtain ⟨t, ht⟩ : ∃ t, q + Fr.gap q = t := ⟨_, rfl⟩
    obtain ⟨rm, hrm⟩ : ∃ rm, Fr.room q = rm := ⟨_, rfl⟩
    rw [hrm, ht] at hgeo
    have hL2 : 256 - t % 256 = rm + 7 := by omega
    have hrm249 : rm ≤ 249 := by omega
    have cl2 := fun W => left_at (t : Int) t (rm + 7) rfl hL2 (by omega) W
    replace cl := Lib.hid cl
    replace cl2 := Lib.hid cl2
    replace hrm := Lib.hid hrm
    clear hgeo hL2
    replace hql := Lib.hid hql
    by_cases hgap : Fr.gap q = 0
    · have hL7 : 7 ≤ L := by
        unfold Fr.gap at hgap
        split at hgap
        · omega
        · omega
      have htq : q = t := by omega
      subst htq
      have d3 : decide ((L : Int) < 7) = false := decide_eq_false (by omega)
      have hz1 : Fr.allZ (Fr.sub l q (Fr.gap q)) = true := by rw [hgap]; rfl
      have ht1 : q + Fr.gap q = q := ht
      replace hz1 := Lib.hid hz1
      replace ht1 := Lib.hid ht1
      clear hgap ht hgl hLe
      go_wp2_with fail
      refine (cl.out _).mono ?_
      rintro _ _ ⟨rfl, rfl⟩
      clear cl hL7
      by_cases hs : n < q + 7
      · have e1 : decide ((n : Int) < (q : Int) + 7) = true := decide_eq_true (by omega)
        go_wp2_with fail
        go_step3
        have hE := err.out 5 (by unfold Fr.step; rw [if_neg (by rw [hz1.out]; simp), if_pos (by rw [ht1.out, hl.out]; exact hs)])
        exact .inl ⟨rfl, ⟨5, rfl, hE.1, hE.2.1, hE.2.2, hB⟩⟩
      have e1 : decide ((n : Int) < (q : Int) + 7) = false := decide_eq_false (by omega)
      obtain ⟨b, off, rfl, hblt, hc⟩ := (hb.below hB).at_ (k := q) (by rw [hl.out]; omega)
      have hA7 : cutA (some ⟨b, off, none⟩) c q = some ⟨b, off + q, none⟩ := by
        unfold cutA
        rw [if_neg (by omega)]
        simp [add_eq]
      have kt := run_cut (P := Tryd.prog) Tryd.underlying22 u8_size (some ⟨b, off, none⟩) n c q (q + 7) (by omega) (by omega)
      rw [hA7, Nat.add_sub_cancel_left] at kt
      simp only [Int.natCast_add] at kt
      have ka := fun W => run_arrayAt (P := Tryd.prog) (w := W) 42 5 7 (some ⟨b, off + q, none⟩) 7 (c - q) Tryd.underlying42 (Nat.le_refl _)
      obtain ⟨x0, hx0⟩ : ∃ y, l[q + 0]'(by rw [hl.out]; omega) = y := ⟨_, rfl⟩
      have y0 : wr.cell? ⟨b, off + q, none⟩ = some (.int .u8 (x0.toNat : Int)) := by rw [← hx0]; exact hc (q + 0) (by rw [hl.out]; omega)
      obtain ⟨x1, hx1⟩ : ∃ y, l[q + 1]'(by rw [hl.out]; omega) = y := ⟨_, rfl⟩
      have y1 : wr.cell? ⟨b, off + q + 1, none⟩ = some (.int .u8 (x1.toNat : Int)) := by rw [← hx1]; exact hc (q + 1) (by rw [hl.out]; omega)
      obtain ⟨x2, hx2⟩ : ∃ y, l[q + 2]'(by rw [hl.out]; omega) = y := ⟨_, rfl⟩
      have y2 : wr.cell? ⟨b, off + q + 2, none⟩ = some (.int .u8 (x2.toNat : Int)) := by rw [← hx2]; exact hc (q + 2) (by rw [hl.out]; omega)
      obtain ⟨x3, hx3⟩ : ∃ y, l[q + 3]'(by rw [hl.out]; omega) = y := ⟨_, rfl⟩
      have y3 : wr.cell? ⟨b, off + q + 3, none⟩ = some (.int .u8 (x3.toNat : Int)) := by rw [← hx3]; exact hc (q + 3) (by rw [hl.out]; omega)
      obtain ⟨x4, hx4⟩ : ∃ y, l[q + 4]'(by rw [hl.out]; omega) = y := ⟨_, rfl⟩
      have y4 : wr.cell? ⟨b, off + q + 4, none⟩ = some (.int .u8 (x4.toNat : Int)) := by rw [← hx4]; exact hc (q + 4) (by rw [hl.out]; omega)
      obtain ⟨x5, hx5⟩ : ∃ y, l[q + 5]'(by rw [hl.out]; omega) = y := ⟨_, rfl⟩
      have y5 : wr.cell? ⟨b, off + q + 5, none⟩ = some (.int .u8 (x5.toNat : Int)) := by rw [← hx5]; exact hc (q + 5) (by rw [hl.out]; omega)
      obtain ⟨x6, hx6⟩ : ∃ y, l[q + 6]'(by rw [hl.out]; omega) = y := ⟨_, rfl⟩
      have y6 : wr.cell? ⟨b, off + q + 6, none⟩ = some (.int .u8 (x6.toNat : Int)) := by rw [← hx6]; exact hc (q + 6) (by rw [hl.out]; omega)
      have hG : ∀ k (h : k < l.length), l.getD k 0 = l[k] := fun k h => by simp [List.getD, h]
      have hmany : Fr.many l q = x4.toNat + 256 * x5.toNat := by
        unfold Fr.many
        rw [hG (q + 4) (by rw [hl.out]; omega), hG (q + 5) (by rw [hl.out]; omega), hx4, hx5]
      have hkind : l.getD (q + 6) 0 = x6 := by rw [hG (q + 6) (by rw [hl.out]; omega), hx6]
      have hsub4 : Fr.sub l q 4 = [x0, x1, x2, x3] := by
        unfold Fr.sub
        rw [List.drop_eq_getElem_cons (i := q) (by rw [hl.out]; omega), List.drop_eq_getElem_cons (i := q + 1) (by rw [hl.out]; omega), List.drop_eq_getElem_cons (i := q + 1 + 1) (by rw [hl.out]; omega), List.drop_eq_getElem_cons (i := q + 1 + 1 + 1) (by rw [hl.out]; omega)]
        simp only [List.take_succ_cons, List.take_zero]
        rw [← hx0, ← hx1, ← hx2, ← hx3]
        rfl
      have hsub3 : Fr.sub l (q + 4) 3 = [x4, x5, x6] := by
        rw [Fr.sub3 _ _ (by rw [hl.out]; omega), hG (q + 4) (by rw [hl.out]; omega), hG (q + 4 + 1) (by rw [hl.out]; omega), hG (q + 4 + 2) (by rw [hl.out]; omega), ← hx4, ← hx5, ← hx6]
      obtain ⟨N, hN⟩ : ∃ N, x4.toNat + 256 * x5.toNat = N := ⟨_, rfl⟩
      have hN16 : N < 65536 := by have := x4.toNat_lt; have := x5.toNat_lt; omega
      rw [hN] at hmany
      have fit := fun W => fits_any x0 x1 x2 x3 x4 x5 x6 g rm m N hN (by omega) (by omega) W
      have man := fun W => many_any x0 x1 x2 x3 x4 x5 x6 W
      rw [hN] at man
      clear hG hx0 hx1 hx2 hx3 hx4 hx5 hx6 hc
      replace hmany := Lib.hid hmany
      replace hkind := Lib.hid hkind
      replace hsub3 := Lib.hid hsub3
      replace hsub4 := Lib.hid hsub4
      replace hA7 := Lib.hid hA7
      replace fit := Lib.hid fit
      replace man := Lib.hid man
      replace hN := Lib.hid hN
      have hCs : C.size = (#[.int .u8 (x0.toNat : Int), .int .u8 (x1.toNat : Int), .int .u8 (x2.toNat : Int), .int .u8 (x3.toNat : Int), .int .u8 (x4.toNat : Int), .int .u8 (x5.toNat : Int), .int .u8 (x6.toNat : Int)] : Array Value).size := hC.out
      have hone : (#[.int .u8 (x0.toNat : Int), .int .u8 (x1.toNat : Int), .int .u8 (x2.toNat : Int), .int .u8 (x3.toNat : Int), .int .u8 (x4.toNat : Int), .int .u8 (x5.toNat : Int), .int .u8 (x6.toNat : Int)] : Array Value).all (·.oneCell') = true := by simp [Value.oneCell']
      replace hCs := Lib.hid hCs
      replace hone := Lib.hid hone
      go_wp2_with (first | (refine wpList_store_blk rfl 42 (.tmp 8) (.tmp 54) rfl w.heap.size rfl hK #[.int .u8 (x0.toNat : Int), .int .u8 (x1.toNat : Int), .int .u8 (x2.toNat : Int), .int .u8 (x3.toNat : Int), .int .u8 (x4.toNat : Int), .int .u8 (x5.toNat : Int), .int .u8 (x6.toNat : Int)] rfl head_size hCs.out hone.out ?_) | fail)
      have hK2 := hK.setRow #[.int .u8 (x0.toNat : Int), .int .u8 (x1.toNat : Int), .int .u8 (x2.toNat : Int), .int .u8 (x3.toNat : Int), .int .u8 (x4.toNat : Int), .int .u8 (x5.toNat : Int), .int .u8 (x6.toNat : Int)]
      have hown2 := hown.kept (grown_setRow wr w.heap.size #[.int .u8 (x0.toNat : Int), .int .u8 (x1.toNat : Int), .int .u8 (x2.toNat : Int), .int .u8 (x3.toNat : Int), .int .u8 (x4.toNat : Int), .int .u8 (x5.toNat : Int), .int .u8 (x6.toNat : Int)]) (by
        rcases hv : (Value.slice A4 m c4).ownBlock with _ | g4
        · exact .inl rfl
        · refine .inr ?_
          have := (hown.lt g4 hv).1
          intro h
          injection h with h
          omega)
      have hB2 := below_setRow' hB (Nat.le_refl _) #[.int .u8 (x0.toNat : Int), .int .u8 (x1.toNat : Int), .int .u8 (x2.toNat : Int), .int .u8 (x3.toNat : Int), .int .u8 (x4.toNat : Int), .int .u8 (x5.toNat : Int), .int .u8 (x6.toNat : Int)]
      have hKlt2 : w.heap.size < (wr.setRow w.heap.size #[.int .u8 (x0.toNat : Int), .int .u8 (x1.toNat : Int), .int .u8 (x2.toNat : Int), .int .u8 (x3.toNat : Int), .int .u8 (x4.toNat : Int), .int .u8 (x5.toNat : Int), .int .u8 (x6.toNat : Int)]).heap.size := by simpa using hKlt
      generalize wr.setRow w.heap.size #[.int .u8 (x0.toNat : Int), .int .u8 (x1.toNat : Int), .int .u8 (x2.toNat : Int), .int .u8 (x3.toNat : Int), .int .u8 (x4.toNat : Int), .int .u8 (x5.toNat : Int), .int .u8 (x6.toNat : Int)] = w2 at *
      clear y0 y1 y2 y3 y4 y5 y6 kt ka hCs hone hK hown hB hKlt
      have q0 : w2.drew.cell? ⟨w.heap.size, 0, none⟩ = some (.int .u8 (x0.toNat : Int)) := hK2.cell 0
      have q1 : w2.drew.cell? ⟨w.heap.size, 1, none⟩ = some (.int .u8 (x1.toNat : Int)) := hK2.cell 1
      have q2 : w2.drew.cell? ⟨w.heap.size, 2, none⟩ = some (.int .u8 (x2.toNat : Int)) := hK2.cell 2
      have q3 : w2.drew.cell? ⟨w.heap.size, 3, none⟩ = some (.int .u8 (x3.toNat : Int)) := hK2.cell 3
      have q4 : w2.drew.cell? ⟨w.heap.size, 4, none⟩ = some (.int .u8 (x4.toNat : Int)) := hK2.cell 4
      have q5 : w2.drew.cell? ⟨w.heap.size, 5, none⟩ = some (.int .u8 (x5.toNat : Int)) := hK2.cell 5
      have q6 : w2.drew.cell? ⟨w.heap.size, 6, none⟩ = some (.int .u8 (x6.toNat : Int)) := hK2.cell 6
      have hw7 : IntKind.i64.wrap ((rm : Int) + 7 - 7) = (rm : Int) := by rw [show (rm : Int) + 7 - 7 = (rm : Int) by omega]; exact IntWalk.i64_in _ (by omega)
      replace cl2 : Hid (∀ W, Calls Tryd.prog 17 #[.int .i64 (q : Int)] W fun e w' => e = .returned (.int .i64 ((rm : Int) + 7)) ∧ W = w') := cl2
      refine still_tail 7 (by kernel_rfl) (by kernel_rfl) ?_
      simp only [List.take_succ_cons, List.take_zero, List.drop_succ_cons, List.drop_zero]
      iterate 3 still_step
      still_call (still_of (cl2.out _))
      iterate 3 still_step
      refine wpStill_nil ?_
      clear q0 q1 q2 q3 q4 q5 q6
      go_wp2_with fail
      refine (fit.out _).mono ?_
      rintro _ w3 ⟨rfl, k3⟩
      clear fit cl2 hw7
      have k3' : Below w2.heap.size w2 w3 := (Below.refl w2.heap.size w2).drew.trans k3
      have hK3 := hK2.below k3' hKlt2
      have hown3 := own_below hown2 k3'
      have hB3 := hB2.trans (k3'.mono (Nat.le_of_lt hKlt2))
      have hsz3 : w2.heap.size ≤ w3.heap.size := k3'.size
      have hKlt3 : w.heap.size < w3.heap.size := Nat.lt_of_lt_of_le hKlt2 hsz3
      clear k3 k3' hK2 hown2 hB2 hKlt2 hsz3
      obtain ⟨fv, hfv⟩ : ∃ fv, Fr.fits x6 N g rm m = fv := ⟨_, rfl⟩
      rw [hfv]
      replace hfv := Lib.hid hfv
      cases fv
      · go_wp2_with fail
        go_step3
        have hE := err.out 4 (by unfold Fr.step; rw [if_neg (by rw [hz1.out]; simp), if_neg (by rw [ht1.out, hl.out]; exact hs), if_pos (by rw [ht1.out, hkind.out, hmany.out, hrm.out, hm.out]; exact hfv.out)])
        exact .inl ⟨rfl, ⟨4, rfl, hE.1, hE.2.1, hE.2.2, hB3⟩⟩
      obtain ⟨a, ha⟩ : ∃ a, q + 7 = a := ⟨_, rfl⟩
      have hai : (q : Int) + 7 = (a : Int) := by omega
      have ha2 : a ≤ n := by omega
      have q0 : w3.cell? ⟨w.heap.size, 0, none⟩ = some (.int .u8 (x0.toNat : Int)) := hK3.cell 0
      have q1 : w3.cell? ⟨w.heap.size, 1, none⟩ = some (.int .u8 (x1.toNat : Int)) := hK3.cell 1
      have q2 : w3.cell? ⟨w.heap.size, 2, none⟩ = some (.int .u8 (x2.toNat : Int)) := hK3.cell 2
      have q3 : w3.cell? ⟨w.heap.size, 3, none⟩ = some (.int .u8 (x3.toNat : Int)) := hK3.cell 3
      have q4 : w3.cell? ⟨w.heap.size, 4, none⟩ = some (.int .u8 (x4.toNat : Int)) := hK3.cell 4
      have q5 : w3.cell? ⟨w.heap.size, 5, none⟩ = some (.int .u8 (x5.toNat : Int)) := hK3.cell 5
      have q6 : w3.cell? ⟨w.heap.size, 6, none⟩ = some (.int .u8 (x6.toNat : Int)) := hK3.cell 6
      obtain ⟨z, hz⟩ : ∃ z, a + N = z := ⟨_, rfl⟩
      have hzi : (a : Int) + (N : Int) = (z : Int) := by omega
      have hzb : z ≤ 2000000 := by omega
      replace hz := Lib.hid hz
      replace ha := Lib.hid ha
      go_wp2_with fail
      refine (man.out _).mono ?_
      rintro _ w4 ⟨rfl, k4⟩
      clear q0 q1 q2 q3 q4 q5 q6 hai
      have hK4 := hK3.below k4 hKlt3
      have hown4 := own_below hown3 k4
      have hB4 := hB3.trans (k4.mono (Nat.le_of_lt hKlt3))
      have hKlt4 : w.heap.size < w4.heap.size := Nat.lt_of_lt_of_le hKlt3 k4.size
      clear k4 hK3 hown3 hB3 hKlt3
      by_cases hs2 : n < z
      · have e2 : decide (n < z) = true := decide_eq_true hs2
        go_wp2_with fail
        go_step3
        have hE := err.out 5 (by unfold Fr.step; rw [if_neg (by rw [hz1.out]; simp), if_neg (by rw [ht1.out, hl.out]; exact hs), if_neg (by rw [ht1.out, hkind.out, hmany.out, hrm.out, hm.out, hfv.out]; simp), if_pos (by rw [ht1.out, hmany.out, hl.out, ha.out, hz.out]; exact hs2)])
        exact .inl ⟨rfl, ⟨5, rfl, hE.1, hE.2.1, hE.2.2, hB4⟩⟩
      have e2 : decide (n < z) = false := decide_eq_false hs2
      have hza : z - a = N := by have := hz.out; omega
      have kb := run_cut (P := Tryd.prog) Tryd.underlying22 u8_size (some ⟨b, off, none⟩) n c a z (by have := hz.out; omega) (by omega)
      rw [hza] at kb
      have hwz : IntKind.i64.wrap (z : Int) = (z : Int) := IntWalk.i64_in _ (by omega)
      have hXl : (Fr.sub l a N).length = N := Fr.sub_length _ _ _ (by rw [hl.out]; have := hz.out; omega)
      have hbX : ∀ W, Below w4.heap.size w4 W → Bs W (cutA (some ⟨b, off, none⟩) c a) (Fr.sub l a N) := fun W h => ((hb.below (hB4.trans (h.mono (Nat.le_of_lt hKlt4)))).cutA (by rw [hl.out]; have := hz.out; omega) (by rw [hl.out]; exact hnc))
      have sm := fun W h => sum_any x0 x1 x2 x3 x4 x5 x6 (cutA (some ⟨b, off, none⟩) c a) N (c - a) (Fr.sub l a N) hXl (by omega) W (hbX W h)
      replace hbX := Lib.hid hbX
      replace sm := Lib.hid sm
      replace hXl := Lib.hid hXl
      clear hza
      go_wp2_with fail
      go_region_held3 (fun w' => (∀ i, w'.cell? ⟨w.heap.size, i, none⟩ = (#[.int .u8 (x0.toNat : Int), .int .u8 (x1.toNat : Int), .int .u8 (x2.toNat : Int), .int .u8 (x3.toNat : Int), .int .u8 (x4.toNat : Int), .int .u8 (x5.toNat : Int), .int .u8 (x6.toNat : Int)] : Array Value)[i]?) ∧ Below w4.heap.size w4 w')
        (first | exact ⟨hK4.drew.cell, (Below.refl _ _).drew⟩ | exact ⟨v6, d6⟩ | exact ⟨v5, d5⟩)
        (first
        | (go_at_call 28; (with_reducible refine (man.out _).mono ?_); rintro _ w5 ⟨rfl, k5⟩; have d5 : Below w4.heap.size w4 w5 := (Below.refl w4.heap.size w4).drew.trans k5; have v5 := (hK4.below d5 hKlt4).cell)
        | (go_at_call 29; (with_reducible refine (sm.out _ d5).mono ?_); rintro _ w6 ⟨rfl, k6⟩; have d6 : Below w4.heap.size w4 w6 := d5.trans (k6.mono d5.size); have v6 := (hK4.below d6 hKlt4).cell))
      clear v5 v6 k5 k6 d5
      have hK6 := hK4.below d6 hKlt4
      have hown6 := own_below hown4 d6
      have hB6 := hB4.trans (d6.mono (Nat.le_of_lt hKlt4))
      have hKlt6 : w.heap.size < w6.heap.size := Nat.lt_of_lt_of_le hKlt4 d6.size
      clear hK4 hown4 hB4 sm w5
      obtain ⟨S, hS⟩ : ∃ S, Fr.sumT [x4, x5, x6] (Fr.sub l a N) = S := ⟨_, rfl⟩
      have hS32 : S < 4294967296 := by rw [← hS]; exact more_lt _ _
      rw [hS]
      replace hS := Lib.hid hS
      have q0 : w6.cell? ⟨w.heap.size, 0, none⟩ = some (.int .u8 (x0.toNat : Int)) := hK6.cell 0
      have q1 : w6.cell? ⟨w.heap.size, 1, none⟩ = some (.int .u8 (x1.toNat : Int)) := hK6.cell 1
      have q2 : w6.cell? ⟨w.heap.size, 2, none⟩ = some (.int .u8 (x2.toNat : Int)) := hK6.cell 2
      have q3 : w6.cell? ⟨w.heap.size, 3, none⟩ = some (.int .u8 (x3.toNat : Int)) := hK6.cell 3
      have q4 : w6.cell? ⟨w.heap.size, 4, none⟩ = some (.int .u8 (x4.toNat : Int)) := hK6.cell 4
      have q5 : w6.cell? ⟨w.heap.size, 5, none⟩ = some (.int .u8 (x5.toNat : Int)) := hK6.cell 5
      have q6 : w6.cell? ⟨w.heap.size, 6, none⟩ = some (.int .u8 (x6.toNat : Int)) := hK6.cell 6
      have ka4 := fun W => run_arrayAt (P := Tryd.prog) (w := W) 61 5 4 (some ⟨w.heap.size, 0, none⟩) 4 7 Tryd.underlying61 (Nat.le_refl _)
      obtain ⟨eb, heb⟩ : ∃ eb, ((S : Int) % 256 == (x0.toNat : Int) && (S : Int) / 256 % 256 == (x1.toNat : Int) && (S : Int) / 65536 % 256 == (x2.toNat : Int) && (S : Int) / 16777216 == (x3.toNat : Int)) = eb := ⟨_, rfl⟩
      have hle := le4_eq S hS32 x0 x1 x2 x3 eb heb
      have hq4 := fun W => eq4 ((S : Int) % 256) ((S : Int) / 256 % 256) ((S : Int) / 65536 % 256) ((S : Int) / 16777216) (x0.toNat : Int) (x1.toNat : Int) (x2.toNat : Int) (x3.toNat : Int) W
      rw [heb] at hq4
      replace hle := Lib.hid hle
      clear heb
      have hst : ∀ (P : Prop), (Fr.le4 (Fr.sumT (Fr.sub l (q + 4) 3) (Fr.sub l (q + 7) N)) ≠ Fr.sub l q 4 → P) → (Fr.le4 S ≠ [x0, x1, x2, x3] → P) := fun P h h2 => h (by rw [hsub3.out, ha.out, hS.out, hsub4.out]; exact h2)
      replace hst := Lib.hid hst
      cases eb
      · go_wp2_with fail
        go_step3
        have hE := err.out 6 (by
          have h6 : Fr.le4 (Fr.sumT (Fr.sub l (q + 4) 3) (Fr.sub l (q + 7) N)) ≠ Fr.sub l q 4 := by rw [hsub3.out, ha.out, hS.out, hsub4.out]; exact hle.out.2 (by trivial)
          unfold Fr.step
          rw [if_neg (by rw [hz1.out]; simp), if_neg (by rw [ht1.out, hl.out]; exact hs), if_neg (by rw [ht1.out, hkind.out, hmany.out, hrm.out, hm.out, hfv.out]; simp), if_neg (by rw [ht1.out, hmany.out, hl.out, ha.out, hz.out]; exact hs2), if_pos (by rw [ht1.out, hmany.out]; exact h6)])
        exact .inl ⟨rfl, ⟨6, rfl, hE.1, hE.2.1, hE.2.2, hB6⟩⟩
      have hok : Fr.step l q g acc.length = .inr (x6, Fr.sub l a N, z) := by
        have h6 : Fr.le4 (Fr.sumT (Fr.sub l (q + 4) 3) (Fr.sub l (q + 7) N)) = Fr.sub l q 4 := by rw [hsub3.out, ha.out, hS.out, hsub4.out]; exact hle.out.1 rfl
        unfold Fr.step
        rw [if_neg (by rw [hz1.out]; simp), if_neg (by rw [ht1.out, hl.out]; exact hs), if_neg (by rw [ht1.out, hkind.out, hmany.out, hrm.out, hm.out, hfv.out]; simp), if_neg (by rw [ht1.out, hmany.out, hl.out, ha.out, hz.out]; exact hs2), if_neg (by rw [ht1.out, hmany.out]; exact fun h => h h6), ht1.out, hkind.out, hmany.out, ha.out, hz.out]
      have hnx : (if Fr.goesOn x6 then Fr.getF fu' l z true (acc ++ Fr.sub l a N) else (acc ++ Fr.sub l a N, z, 0)) = (x, ne, er) := by
        rw [← Fr.getF_inr _ _ _ _ _ _ _ _ hok]
        exact hgF.out
      have hxl : (acc ++ Fr.sub l a N).length = m + N := by rw [List.length_append, hm.out, hXl.out]
      have hzn : z ≤ n ∧ a ≤ z ∧ q + 7 ≤ a := by have := hz.out; have := ha.out; have := ht1.out; omega
      replace hnx := Lib.hid hnx
      replace hxl := Lib.hid hxl
      clear hok hst hle
      go_wp2_with fail
      refine (man.out _).mono ?_
      rintro _ w7 ⟨rfl, k7⟩
      clear q0 q1 q2 q3 q4 q5 q6 hq4 ka4
      have d7 := d6.trans (k7.mono d6.size)
      have hK7 := hK6.below k7 hKlt6
      have hown7 := own_below hown6 k7
      have hB7 := hB6.trans (k7.mono (Nat.le_of_lt hKlt6))
      have hKlt7 : w.heap.size < w7.heap.size := Nat.lt_of_lt_of_le hKlt6 k7.size
      have rdX : Rd w7 1 (cutA (some ⟨b, off, none⟩) c a) N (bvs (Fr.sub l a N)) := by
        have h := hbX.out w7 d7
        unfold Bs at h
        rw [hXl.out] at h
        exact h
      have one2 := bvs_one (Fr.sub l a N)
      have hne4 : some w.heap.size ≠ (Value.slice A4 m c4).ownBlock := by
        intro h
        have := (hown7.lt _ h.symm).1
        omega
      replace one2 := Lib.hid one2
      replace hne4 := Lib.hid hne4
      clear k7 hK6 hown6 hB6 hKlt6 d6
      go_wp2_with (first | (at_builtin; refine wpList_app w7 rfl (.tmp 98) (.tmp 105) rfl Tryd.underlying22 infoF8 rfl (by omega) hown7 rfl _ N (c - a) rdX rfl one2.out (by unfold maxLen; omega) (by omega) (Nat.succ_le_of_lt hKlt7) ?_; intro v8 w8 hown8 hgrow8 _; obtain ⟨A8, c8, rfl⟩ := own_slice hown8; have hK8 := hK7.grown hgrow8 hne4.out; have q0 : w8.cell? ⟨w.heap.size, 0, none⟩ = some (.int .u8 (x0.toNat : Int)) := hK8.cell 0; have q1 : w8.cell? ⟨w.heap.size, 1, none⟩ = some (.int .u8 (x1.toNat : Int)) := hK8.cell 1; have q2 : w8.cell? ⟨w.heap.size, 2, none⟩ = some (.int .u8 (x2.toNat : Int)) := hK8.cell 2; have q3 : w8.cell? ⟨w.heap.size, 3, none⟩ = some (.int .u8 (x3.toNat : Int)) := hK8.cell 3; have q4 : w8.cell? ⟨w.heap.size, 4, none⟩ = some (.int .u8 (x4.toNat : Int)) := hK8.cell 4; have q5 : w8.cell? ⟨w.heap.size, 5, none⟩ = some (.int .u8 (x5.toNat : Int)) := hK8.cell 5; have q6 : w8.cell? ⟨w.heap.size, 6, none⟩ = some (.int .u8 (x6.toNat : Int)) := hK8.cell 6) | fail)
      have hB8 := below_app hB7 hown7 (Nat.le_succ _) (Nat.le_of_lt hKlt7) hgrow8
      have hKlt8 := hK8.lt
      rw [← bvs_append] at hown8
      clear rdX hown7 hK7 hB7 hKlt7 hgrow8 one2
      refine (man.out _).mono ?_
      rintro _ w9 ⟨rfl, k9⟩
      clear q0 q1 q2 q3 q4 q5 q6
      have hK9 := hK8.below k9 hKlt8
      have hown9 := own_below hown8 k9
      have hB9 := hB8.trans (k9.mono (Nat.le_of_lt hKlt8))
      clear hK8 hown8 hB8 hKlt8 k9
      have q6 : w9.cell? ⟨w.heap.size, 6, none⟩ = some (.int .u8 (x6.toNat : Int)) := hK9.cell 6
      by_cases hk2 : x6 = 2
      · have f2 : ((x6.toNat : Int) == 2) = true := by subst hk2; rfl
        go_wp2_with fail
        go_step3
        have hgo : Fr.goesOn x6 = true := by subst hk2; rfl
        have h := hnx.out
        rw [hgo, if_pos rfl] at h
        exact .inr ⟨rfl, ⟨fu', z, m + N, c8, true, acc ++ Fr.sub l a N, _, A8, rfl, h, by omega, hzn.1, hxl.out, by have := hz.out; omega, hown9, hK9, rfl, hB9⟩, by
          show n - (intOf (.int .i64 (z : Int))).toNat < n - (intOf (.int .i64 (q : Int))).toNat
          simp [intOf]
          omega⟩
      by_cases hk3 : x6 = 3
      · have f2 : ((x6.toNat : Int) == 2) = false := by subst hk3; rfl
        have f3 : ((x6.toNat : Int) == 3) = true := by subst hk3; rfl
        go_wp2_with fail
        go_step3
        have hgo : Fr.goesOn x6 = true := by subst hk3; rfl
        have h := hnx.out
        rw [hgo, if_pos rfl] at h
        exact .inr ⟨rfl, ⟨fu', z, m + N, c8, true, acc ++ Fr.sub l a N, _, A8, rfl, h, by omega, hzn.1, hxl.out, by have := hz.out; omega, hown9, hK9, rfl, hB9⟩, by
          show n - (intOf (.int .i64 (z : Int))).toNat < n - (intOf (.int .i64 (q : Int))).toNat
          simp [intOf]
          omega⟩
      have f2 : ((x6.toNat : Int) == 2) = false := by rw [beq_eq_false_iff_ne]; intro h; exact hk2 (UInt8.toNat_inj.1 (by rw [show (2 : UInt8).toNat = 2 from rfl]; omega))
      have f3 : ((x6.toNat : Int) == 3) = false := by rw [beq_eq_false_iff_ne]; intro h; exact hk3 (UInt8.toNat_inj.1 (by rw [show (3 : UInt8).toNat = 3 from rfl]; omega))
      have hcp := own_cap hown9
      go_wp2_with fail
      refine (clip_at _ _ _ _ hcp.1 hcp.2).mono ?_
      rintro _ _ ⟨rfl, rfl⟩
      clear hcp
      go_wp2
      rw [Exit2_ret]
      go_ret3
      have hgo : Fr.goesOn x6 = false := by unfold Fr.goesOn; simp [hk2, hk3]
      have h := hnx.out
      rw [hgo, if_neg (by simp)] at h
      injection h with h1 h
      injection h with h2 h3
      subst h1
      subst h2
      subst h3
      exact ⟨A8, m + N, c8, rfl, hxl.out, own_base hown9 (Nat.le_succ _), hB9⟩
    · have hgq : Fr.gap q = L := by
        unfold Fr.gap at hgap ⊢
        split at hgap
        · rw [if_pos (by assumption), hLe]
        · exact absurd rfl hgap
      rw [hgq] at ht hgl hgap
      have hti : (q : Int) + (L : Int) = (t : Int) := by omega
      have ht2 : t ≤ 1000006 := by omega
      have d3 : decide ((L : Int) < 7) = true := decide_eq_true (by omega)
      replace hLe := Lib.hid hLe
      replace ht := Lib.hid ht
      replace hgq := Lib.hid hgq
      obtain ⟨E0, hE0, hE0q, hE0n, hmin⟩ : ∃ E0 : Nat, min t n = E0 ∧ q ≤ E0 ∧ E0 ≤ n ∧ ∀ W, (Builtin.min_ #[3, 3] 3 #[.int .i64 (t : Int), .int .i64 (n : Int)]).run Tryd.prog W = .ok (.int .i64 (E0 : Int)) W :=
        ⟨min t n, rfl, by have := ht.out; omega, by omega, fun W => by rw [run_min2]; congr 3; omega⟩
      have kq := run_cut (P := Tryd.prog) Tryd.underlying22 u8_size A n c q E0 hE0q (by omega)
      obtain ⟨z, hz⟩ : ∃ z, Fr.allZ (Fr.sub l q L) = z := ⟨_, rfl⟩
      have hsub : (l.drop q).take (E0 - q) = Fr.sub l q L := by
        unfold Fr.sub
        rw [← hE0]
        rcases Nat.le_total t n with h | h
        · rw [Nat.min_eq_left h, ← ht.out]; congr 1; omega
        · rw [Nat.min_eq_right h, List.take_of_length_le (by rw [List.length_drop, hl.out]; omega), List.take_of_length_le (by rw [List.length_drop, hl.out]; have := ht.out; omega)]
      have pz := noughts_any wr (cutA A c q) (E0 - q) (c - q) ((l.drop q).take (E0 - q)) (by rw [List.length_take, List.length_drop, hl.out]; omega) (by omega) ((hb.below hB).cutA (by rw [hl.out]; omega) (by rw [hl.out]; exact hnc)) z (by rw [hsub]; exact hz)
      replace pz := Lib.hid pz
      replace hz := Lib.hid hz
      clear hsub hE0
      go_wp2_with fail
      refine (cl.out _).mono ?_
      rintro _ _ ⟨rfl, rfl⟩
      cases z
      · go_wp2_with fail
        refine pz.out.mono ?_
        rintro _ _ ⟨rfl, rfl⟩
        go_wp2_with fail
        go_step3
        have hE := err.out 4 (by unfold Fr.step; rw [if_pos (by rw [hgq.out]; exact hz.out)])
        exact .inl ⟨rfl, ⟨4, rfl, hE.1, hE.2.1, hE.2.2, hB⟩⟩
      go_wp2_with fail
      refine pz.out.mono ?_
      rintro _ _ ⟨rfl, rfl⟩
      have hz1 : Fr.allZ (Fr.sub l q (Fr.gap q)) = true := by rw [hgq.out]; exact hz.out
      have ht1 : q + Fr.gap q = t := by rw [hgq.out]; exact ht.out
      clear pz hz kq hmin hE0q hE0n cl d3 hgl hgap
      replace hz1 := Lib.hid hz1
      replace ht1 := Lib.hid ht1
      by_cases hs : n < t + 7
      · have e1 : decide ((n : Int) < (t : Int) + 7) = true := decide_eq_true (by omega)
        go_wp2_with fail
        go_step3
        have hE := err.out 5 (by unfold Fr.step; rw [if_neg (by rw [hz1.out]; simp), if_pos (by rw [ht1.out, hl.out]; exact hs)])
        exact .inl ⟨rfl, ⟨5, rfl, hE.1, hE.2.1, hE.2.2, hB⟩⟩
      have e1 : decide ((n : Int) < (t : Int) + 7) = false := decide_eq_false (by omega)
      obtain ⟨b, off, rfl, hblt, hc⟩ := (hb.below hB).at_ (k := t) (by rw [hl.out]; omega)
      have hA7 : cutA (some ⟨b, off, none⟩) c t = some ⟨b, off + t, none⟩ := by
        unfold cutA
        rw [if_neg (by omega)]
        simp [add_eq]
      have kt := run_cut (P := Tryd.prog) Tryd.underlying22 u8_size (some ⟨b, off, none⟩) n c t (t + 7) (by omega) (by omega)
      rw [hA7, Nat.add_sub_cancel_left] at kt
      simp only [Int.natCast_add] at kt
      have ka := fun W => run_arrayAt (P := Tryd.prog) (w := W) 42 5 7 (some ⟨b, off + t, none⟩) 7 (c - t) Tryd.underlying42 (Nat.le_refl _)
      obtain ⟨x0, hx0⟩ : ∃ y, l[t + 0]'(by rw [hl.out]; omega) = y := ⟨_, rfl⟩
      have y0 : wr.cell? ⟨b, off + t, none⟩ = some (.int .u8 (x0.toNat : Int)) := by rw [← hx0]; exact hc (t + 0) (by rw [hl.out]; omega)
      obtain ⟨x1, hx1⟩ : ∃ y, l[t + 1]'(by rw [hl.out]; omega) = y := ⟨_, rfl⟩
      have y1 : wr.cell? ⟨b, off + t + 1, none⟩ = some (.int .u8 (x1.toNat : Int)) := by rw [← hx1]; exact hc (t + 1) (by rw [hl.out]; omega)
      obtain ⟨x2, hx2⟩ : ∃ y, l[t + 2]'(by rw [hl.out]; omega) = y := ⟨_, rfl⟩
      have y2 : wr.cell? ⟨b, off + t + 2, none⟩ = some (.int .u8 (x2.toNat : Int)) := by rw [← hx2]; exact hc (t + 2) (by rw [hl.out]; omega)
      obtain ⟨x3, hx3⟩ : ∃ y, l[t + 3]'(by rw [hl.out]; omega) = y := ⟨_, rfl⟩
      have y3 : wr.cell? ⟨b, off + t + 3, none⟩ = some (.int .u8 (x3.toNat : Int)) := by rw [← hx3]; exact hc (t + 3) (by rw [hl.out]; omega)
      obtain ⟨x4, hx4⟩ : ∃ y, l[t + 4]'(by rw [hl.out]; omega) = y := ⟨_, rfl⟩
      have y4 : wr.cell? ⟨b, off + t + 4, none⟩ = some (.int .u8 (x4.toNat : Int)) := by rw [← hx4]; exact hc (t + 4) (by rw [hl.out]; omega)
      obtain ⟨x5, hx5⟩ : ∃ y, l[t + 5]'(by rw [hl.out]; omega) = y := ⟨_, rfl⟩
      have y5 : wr.cell? ⟨b, off + t + 5, none⟩ = some (.int .u8 (x5.toNat : Int)) := by rw [← hx5]; exact hc (t + 5) (by rw [hl.out]; omega)
      obtain ⟨x6, hx6⟩ : ∃ y, l[t + 6]'(by rw [hl.out]; omega) = y := ⟨_, rfl⟩
      have y6 : wr.cell? ⟨b, off + t + 6, none⟩ = some (.int .u8 (x6.toNat : Int)) := by rw [← hx6]; exact hc (t + 6) (by rw [hl.out]; omega)
      have hG : ∀ k (h : k < l.length), l.getD k 0 = l[k] := fun k h => by simp [List.getD, h]
      have hmany : Fr.many l t = x4.toNat + 256 * x5.toNat := by
        unfold Fr.many
        rw [hG (t + 4) (by rw [hl.out]; omega), hG (t + 5) (by rw [hl.out]; omega), hx4, hx5]
      have hkind : l.getD (t + 6) 0 = x6 := by rw [hG (t + 6) (by rw [hl.out]; omega), hx6]
      have hsub4 : Fr.sub l t 4 = [x0, x1, x2, x3] := by
        unfold Fr.sub
        rw [List.drop_eq_getElem_cons (i := t) (by rw [hl.out]; omega), List.drop_eq_getElem_cons (i := t + 1) (by rw [hl.out]; omega), List.drop_eq_getElem_cons (i := t + 1 + 1) (by rw [hl.out]; omega), List.drop_eq_getElem_cons (i := t + 1 + 1 + 1) (by rw [hl.out]; omega)]
        simp only [List.take_succ_cons, List.take_zero]
        rw [← hx0, ← hx1, ← hx2, ← hx3]
        rfl
      have hsub3 : Fr.sub l (t + 4) 3 = [x4, x5, x6] := by
        rw [Fr.sub3 _ _ (by rw [hl.out]; omega), hG (t + 4) (by rw [hl.out]; omega), hG (t + 4 + 1) (by rw [hl.out]; omega), hG (t + 4 + 2) (by rw [hl.out]; omega), ← hx4, ← hx5, ← hx6]
      obtain ⟨N, hN⟩ : ∃ N, x4.toNat + 256 * x5.toNat = N := ⟨_, rfl⟩
      have hN16 : N < 65536 := by have := x4.toNat_lt; have := x5.toNat_lt; omega
      rw [hN] at hmany
      have fit := fun W => fits_any x0 x1 x2 x3 x4 x5 x6 g rm m N hN (by omega) (by omega) W
      have man := fun W => many_any x0 x1 x2 x3 x4 x5 x6 W
      rw [hN] at man
      clear hG hx0 hx1 hx2 hx3 hx4 hx5 hx6 hc
      replace hmany := Lib.hid hmany
      replace hkind := Lib.hid hkind
      replace hsub3 := Lib.hid hsub3
      replace hsub4 := Lib.hid hsub4
      replace hA7 := Lib.hid hA7
      replace fit := Lib.hid fit
      replace man := Lib.hid man
      replace hN := Lib.hid hN
      have hCs : C.size = (#[.int .u8 (x0.toNat : Int), .int .u8 (x1.toNat : Int), .int .u8 (x2.toNat : Int), .int .u8 (x3.toNat : Int), .int .u8 (x4.toNat : Int), .int .u8 (x5.toNat : Int), .int .u8 (x6.toNat : Int)] : Array Value).size := hC.out
      have hone : (#[.int .u8 (x0.toNat : Int), .int .u8 (x1.toNat : Int), .int .u8 (x2.toNat : Int), .int .u8 (x3.toNat : Int), .int .u8 (x4.toNat : Int), .int .u8 (x5.toNat : Int), .int .u8 (x6.toNat : Int)] : Array Value).all (·.oneCell') = true := by simp [Value.oneCell']
      replace hCs := Lib.hid hCs
      replace hone := Lib.hid hone
      go_wp2_with (first | (refine wpList_store_blk rfl 42 (.tmp 8) (.tmp 54) rfl w.heap.size rfl hK #[.int .u8 (x0.toNat : Int), .int .u8 (x1.toNat : Int), .int .u8 (x2.toNat : Int), .int .u8 (x3.toNat : Int), .int .u8 (x4.toNat : Int), .int .u8 (x5.toNat : Int), .int .u8 (x6.toNat : Int)] rfl head_size hCs.out hone.out ?_) | fail)
      have hK2 := hK.setRow #[.int .u8 (x0.toNat : Int), .int .u8 (x1.toNat : Int), .int .u8 (x2.toNat : Int), .int .u8 (x3.toNat : Int), .int .u8 (x4.toNat : Int), .int .u8 (x5.toNat : Int), .int .u8 (x6.toNat : Int)]
      have hown2 := hown.kept (grown_setRow wr w.heap.size #[.int .u8 (x0.toNat : Int), .int .u8 (x1.toNat : Int), .int .u8 (x2.toNat : Int), .int .u8 (x3.toNat : Int), .int .u8 (x4.toNat : Int), .int .u8 (x5.toNat : Int), .int .u8 (x6.toNat : Int)]) (by
        rcases hv : (Value.slice A4 m c4).ownBlock with _ | g4
        · exact .inl rfl
        · refine .inr ?_
          have := (hown.lt g4 hv).1
          intro h
          injection h with h
          omega)
      have hB2 := below_setRow' hB (Nat.le_refl _) #[.int .u8 (x0.toNat : Int), .int .u8 (x1.toNat : Int), .int .u8 (x2.toNat : Int), .int .u8 (x3.toNat : Int), .int .u8 (x4.toNat : Int), .int .u8 (x5.toNat : Int), .int .u8 (x6.toNat : Int)]
      have hKlt2 : w.heap.size < (wr.setRow w.heap.size #[.int .u8 (x0.toNat : Int), .int .u8 (x1.toNat : Int), .int .u8 (x2.toNat : Int), .int .u8 (x3.toNat : Int), .int .u8 (x4.toNat : Int), .int .u8 (x5.toNat : Int), .int .u8 (x6.toNat : Int)]).heap.size := by simpa using hKlt
      generalize wr.setRow w.heap.size #[.int .u8 (x0.toNat : Int), .int .u8 (x1.toNat : Int), .int .u8 (x2.toNat : Int), .int .u8 (x3.toNat : Int), .int .u8 (x4.toNat : Int), .int .u8 (x5.toNat : Int), .int .u8 (x6.toNat : Int)] = w2 at *
      clear y0 y1 y2 y3 y4 y5 y6 kt ka hCs hone hK hown hB hKlt
      have q0 : w2.drew.cell? ⟨w.heap.size, 0, none⟩ = some (.int .u8 (x0.toNat : Int)) := hK2.cell 0
      have q1 : w2.drew.cell? ⟨w.heap.size, 1, none⟩ = some (.int .u8 (x1.toNat : Int)) := hK2.cell 1
      have q2 : w2.drew.cell? ⟨w.heap.size, 2, none⟩ = some (.int .u8 (x2.toNat : Int)) := hK2.cell 2
      have q3 : w2.drew.cell? ⟨w.heap.size, 3, none⟩ = some (.int .u8 (x3.toNat : Int)) := hK2.cell 3
      have q4 : w2.drew.cell? ⟨w.heap.size, 4, none⟩ = some (.int .u8 (x4.toNat : Int)) := hK2.cell 4
      have q5 : w2.drew.cell? ⟨w.heap.size, 5, none⟩ = some (.int .u8 (x5.toNat : Int)) := hK2.cell 5
      have q6 : w2.drew.cell? ⟨w.heap.size, 6, none⟩ = some (.int .u8 (x6.toNat : Int)) := hK2.cell 6
      have hw7 : IntKind.i64.wrap ((rm : Int) + 7 - 7) = (rm : Int) := by rw [show (rm : Int) + 7 - 7 = (rm : Int) by omega]; exact IntWalk.i64_in _ (by omega)
      replace cl2 : Hid (∀ W, Calls Tryd.prog 17 #[.int .i64 (t : Int)] W fun e w' => e = .returned (.int .i64 ((rm : Int) + 7)) ∧ W = w') := cl2
      refine still_tail 7 (by kernel_rfl) (by kernel_rfl) ?_
      simp only [List.take_succ_cons, List.take_zero, List.drop_succ_cons, List.drop_zero]
      iterate 3 still_step
      still_call (still_of (cl2.out _))
      iterate 3 still_step
      refine wpStill_nil ?_
      clear q0 q1 q2 q3 q4 q5 q6
      go_wp2_with fail
      refine (fit.out _).mono ?_
      rintro _ w3 ⟨rfl, k3⟩
      clear fit cl2 hw7
      have k3' : Below w2.heap.size w2 w3 := (Below.refl w2.heap.size w2).drew.trans k3
      have hK3 := hK2.below k3' hKlt2
      have hown3 := own_below hown2 k3'
      have hB3 := hB2.trans (k3'.mono (Nat.le_of_lt hKlt2))
      have hsz3 : w2.heap.size ≤ w3.heap.size := k3'.size
      have hKlt3 : w.heap.size < w3.heap.size := Nat.lt_of_lt_of_le hKlt2 hsz3
      clear k3 k3' hK2 hown2 hB2 hKlt2 hsz3
      obtain ⟨fv, hfv⟩ : ∃ fv, Fr.fits x6 N g rm m = fv := ⟨_, rfl⟩
      rw [hfv]
      replace hfv := Lib.hid hfv
      cases fv
      · go_wp2_with fail
        go_step3
        have hE := err.out 4 (by unfold Fr.step; rw [if_neg (by rw [hz1.out]; simp), if_neg (by rw [ht1.out, hl.out]; exact hs), if_pos (by rw [ht1.out, hkind.out, hmany.out, hrm.out, hm.out]; exact hfv.out)])
        exact .inl ⟨rfl, ⟨4, rfl, hE.1, hE.2.1, hE.2.2, hB3⟩⟩
      obtain ⟨a, ha⟩ : ∃ a, t + 7 = a := ⟨_, rfl⟩
      have hai : (t : Int) + 7 = (a : Int) := by omega
      have ha2 : a ≤ n := by omega
      have q0 : w3.cell? ⟨w.heap.size, 0, none⟩ = some (.int .u8 (x0.toNat : Int)) := hK3.cell 0
      have q1 : w3.cell? ⟨w.heap.size, 1, none⟩ = some (.int .u8 (x1.toNat : Int)) := hK3.cell 1
      have q2 : w3.cell? ⟨w.heap.size, 2, none⟩ = some (.int .u8 (x2.toNat : Int)) := hK3.cell 2
      have q3 : w3.cell? ⟨w.heap.size, 3, none⟩ = some (.int .u8 (x3.toNat : Int)) := hK3.cell 3
      have q4 : w3.cell? ⟨w.heap.size, 4, none⟩ = some (.int .u8 (x4.toNat : Int)) := hK3.cell 4
      have q5 : w3.cell? ⟨w.heap.size, 5, none⟩ = some (.int .u8 (x5.toNat : Int)) := hK3.cell 5
      have q6 : w3.cell? ⟨w.heap.size, 6, none⟩ = some (.int .u8 (x6.toNat : Int)) := hK3.cell 6
      obtain ⟨z, hz⟩ : ∃ z, a + N = z := ⟨_, rfl⟩
      have hzi : (a : Int) + (N : Int) = (z : Int) := by omega
      have hzb : z ≤ 2000000 := by omega
      replace hz := Lib.hid hz
      replace ha := Lib.hid ha
      go_wp2_with fail
      refine (man.out _).mono ?_
      rintro _ w4 ⟨rfl, k4⟩
      clear q0 q1 q2 q3 q4 q5 q6 hai
      have hK4 := hK3.below k4 hKlt3
      have hown4 := own_below hown3 k4
      have hB4 := hB3.trans (k4.mono (Nat.le_of_lt hKlt3))
      have hKlt4 : w.heap.size < w4.heap.size := Nat.lt_of_lt_of_le hKlt3 k4.size
      clear k4 hK3 hown3 hB3 hKlt3
      by_cases hs2 : n < z
      · have e2 : decide (n < z) = true := decide_eq_true hs2
        go_wp2_with fail
        go_step3
        have hE := err.out 5 (by unfold Fr.step; rw [if_neg (by rw [hz1.out]; simp), if_neg (by rw [ht1.out, hl.out]; exact hs), if_neg (by rw [ht1.out, hkind.out, hmany.out, hrm.out, hm.out, hfv.out]; simp), if_pos (by rw [ht1.out, hmany.out, hl.out, ha.out, hz.out]; exact hs2)])
        exact .inl ⟨rfl, ⟨5, rfl, hE.1, hE.2.1, hE.2.2, hB4⟩⟩
      have e2 : decide (n < z) = false := decide_eq_false hs2
      have hza : z - a = N := by have := hz.out; omega
      have kb := run_cut (P := Tryd.prog) Tryd.underlying22 u8_size (some ⟨b, off, none⟩) n c a z (by have := hz.out; omega) (by omega)
      rw [hza] at kb
      have hwz : IntKind.i64.wrap (z : Int) = (z : Int) := IntWalk.i64_in _ (by omega)
      have hXl : (Fr.sub l a N).length = N := Fr.sub_length _ _ _ (by rw [hl.out]; have := hz.out; omega)
      have hbX : ∀ W, Below w4.heap.size w4 W → Bs W (cutA (some ⟨b, off, none⟩) c a) (Fr.sub l a N) := fun W h => ((hb.below (hB4.trans (h.mono (Nat.le_of_lt hKlt4)))).cutA (by rw [hl.out]; have := hz.out; omega) (by rw [hl.out]; exact hnc))
      have sm := fun W h => sum_any x0 x1 x2 x3 x4 x5 x6 (cutA (some ⟨b, off, none⟩) c a) N (c - a) (Fr.sub l a N) hXl (by omega) W (hbX W h)
      replace hbX := Lib.hid hbX
      replace sm := Lib.hid sm
      replace hXl := Lib.hid hXl
      clear hza
      go_wp2_with fail
      go_region_held3 (fun w' => (∀ i, w'.cell? ⟨w.heap.size, i, none⟩ = (#[.int .u8 (x0.toNat : Int), .int .u8 (x1.toNat : Int), .int .u8 (x2.toNat : Int), .int .u8 (x3.toNat : Int), .int .u8 (x4.toNat : Int), .int .u8 (x5.toNat : Int), .int .u8 (x6.toNat : Int)] : Array Value)[i]?) ∧ Below w4.heap.size w4 w')
        (first | exact ⟨hK4.drew.cell, (Below.refl _ _).drew⟩ | exact ⟨v6, d6⟩ | exact ⟨v5, d5⟩)
        (first
        | (go_at_call 28; (with_reducible refine (man.out _).mono ?_); rintro _ w5 ⟨rfl, k5⟩; have d5 : Below w4.heap.size w4 w5 := (Below.refl w4.heap.size w4).drew.trans k5; have v5 := (hK4.below d5 hKlt4).cell)
        | (go_at_call 29; (with_reducible refine (sm.out _ d5).mono ?_); rintro _ w6 ⟨rfl, k6⟩; have d6 : Below w4.heap.size w4 w6 := d5.trans (k6.mono d5.size); have v6 := (hK4.below d6 hKlt4).cell))
      clear v5 v6 k5 k6 d5
      have hK6 := hK4.below d6 hKlt4
      have hown6 := own_below hown4 d6
      have hB6 := hB4.trans (d6.mono (Nat.le_of_lt hKlt4))
      have hKlt6 : w.heap.size < w6.heap.size := Nat.lt_of_lt_of_le hKlt4 d6.size
      clear hK4 hown4 hB4 sm w5
      obtain ⟨S, hS⟩ : ∃ S, Fr.sumT [x4, x5, x6] (Fr.sub l a N) = S := ⟨_, rfl⟩
      have hS32 : S < 4294967296 := by rw [← hS]; exact more_lt _ _
      rw [hS]
      replace hS := Lib.hid hS
      have q0 : w6.cell? ⟨w.heap.size, 0, none⟩ = some (.int .u8 (x0.toNat : Int)) := hK6.cell 0
      have q1 : w6.cell? ⟨w.heap.size, 1, none⟩ = some (.int .u8 (x1.toNat : Int)) := hK6.cell 1
      have q2 : w6.cell? ⟨w.heap.size, 2, none⟩ = some (.int .u8 (x2.toNat : Int)) := hK6.cell 2
      have q3 : w6.cell? ⟨w.heap.size, 3, none⟩ = some (.int .u8 (x3.toNat : Int)) := hK6.cell 3
      have q4 : w6.cell? ⟨w.heap.size, 4, none⟩ = some (.int .u8 (x4.toNat : Int)) := hK6.cell 4
      have q5 : w6.cell? ⟨w.heap.size, 5, none⟩ = some (.int .u8 (x5.toNat : Int)) := hK6.cell 5
      have q6 : w6.cell? ⟨w.heap.size, 6, none⟩ = some (.int .u8 (x6.toNat : Int)) := hK6.cell 6
      have ka4 := fun W => run_arrayAt (P := Tryd.prog) (w := W) 61 5 4 (some ⟨w.heap.size, 0, none⟩) 4 7 Tryd.underlying61 (Nat.le_refl _)
      obtain ⟨eb, heb⟩ : ∃ eb, ((S : Int) % 256 == (x0.toNat : Int) && (S : Int) / 256 % 256 == (x1.toNat : Int) && (S : Int) / 65536 % 256 == (x2.toNat : Int) && (S : Int) / 16777216 == (x3.toNat : Int)) = eb := ⟨_, rfl⟩
      have hle := le4_eq S hS32 x0 x1 x2 x3 eb heb
      have hq4 := fun W => eq4 ((S : Int) % 256) ((S : Int) / 256 % 256) ((S : Int) / 65536 % 256) ((S : Int) / 16777216) (x0.toNat : Int) (x1.toNat : Int) (x2.toNat : Int) (x3.toNat : Int) W
      rw [heb] at hq4
      replace hle := Lib.hid hle
      clear heb
      have hst : ∀ (P : Prop), (Fr.le4 (Fr.sumT (Fr.sub l (t + 4) 3) (Fr.sub l (t + 7) N)) ≠ Fr.sub l t 4 → P) → (Fr.le4 S ≠ [x0, x1, x2, x3] → P) := fun P h h2 => h (by rw [hsub3.out, ha.out, hS.out, hsub4.out]; exact h2)
      replace hst := Lib.hid hst
      cases eb
      · go_wp2_with fail
        go_step3
        have hE := err.out 6 (by
          have h6 : Fr.le4 (Fr.sumT (Fr.sub l (t + 4) 3) (Fr.sub l (t + 7) N)) ≠ Fr.sub l t 4 := by rw [hsub3.out, ha.out, hS.out, hsub4.out]; exact hle.out.2 (by trivial)
          unfold Fr.step
          rw [if_neg (by rw [hz1.out]; simp), if_neg (by rw [ht1.out, hl.out]; exact hs), if_neg (by rw [ht1.out, hkind.out, hmany.out, hrm.out, hm.out, hfv.out]; simp), if_neg (by rw [ht1.out, hmany.out, hl.out, ha.out, hz.out]; exact hs2), if_pos (by rw [ht1.out, hmany.out]; exact h6)])
        exact .inl ⟨rfl, ⟨6, rfl, hE.1, hE.2.1, hE.2.2, hB6⟩⟩
      have hok : Fr.step l q g acc.length = .inr (x6, Fr.sub l a N, z) := by
        have h6 : Fr.le4 (Fr.sumT (Fr.sub l (t + 4) 3) (Fr.sub l (t + 7) N)) = Fr.sub l t 4 := by rw [hsub3.out, ha.out, hS.out, hsub4.out]; exact hle.out.1 rfl
        unfold Fr.step
        rw [if_neg (by rw [hz1.out]; simp), if_neg (by rw [ht1.out, hl.out]; exact hs), if_neg (by rw [ht1.out, hkind.out, hmany.out, hrm.out, hm.out, hfv.out]; simp), if_neg (by rw [ht1.out, hmany.out, hl.out, ha.out, hz.out]; exact hs2), if_neg (by rw [ht1.out, hmany.out]; exact fun h => h h6), ht1.out, hkind.out, hmany.out, ha.out, hz.out]
      have hnx : (if Fr.goesOn x6 then Fr.getF fu' l z true (acc ++ Fr.sub l a N) else (acc ++ Fr.sub l a N, z, 0)) = (x, ne, er) := by
        rw [← Fr.getF_inr _ _ _ _ _ _ _ _ hok]
        exact hgF.out
      have hxl : (acc ++ Fr.sub l a N).length = m + N := by rw [List.length_append, hm.out, hXl.out]
      have hzn : z ≤ n ∧ a ≤ z ∧ q + 7 ≤ a := by have := hz.out; have := ha.out; have := ht1.out; omega
      replace hnx := Lib.hid hnx
      replace hxl := Lib.hid hxl
      clear hok hst hle
      go_wp2_with fail
      refine (man.out _).mono ?_
      rintro _ w7 ⟨rfl, k7⟩
      clear q0 q1 q2 q3 q4 q5 q6 hq4 ka4
      have d7 := d6.trans (k7.mono d6.size)
      have hK7 := hK6.below k7 hKlt6
      have hown7 := own_below hown6 k7
      have hB7 := hB6.trans (k7.mono (Nat.le_of_lt hKlt6))
      have hKlt7 : w.heap.size < w7.heap.size := Nat.lt_of_lt_of_le hKlt6 k7.size
      have rdX : Rd w7 1 (cutA (some ⟨b, off, none⟩) c a) N (bvs (Fr.sub l a N)) := by
        have h := hbX.out w7 d7
        unfold Bs at h
        rw [hXl.out] at h
        exact h
      have one2 := bvs_one (Fr.sub l a N)
      have hne4 : some w.heap.size ≠ (Value.slice A4 m c4).ownBlock := by
        intro h
        have := (hown7.lt _ h.symm).1
        omega
      replace one2 := Lib.hid one2
      replace hne4 := Lib.hid hne4
      clear k7 hK6 hown6 hB6 hKlt6 d6
      go_wp2_with (first | (at_builtin; refine wpList_app w7 rfl (.tmp 98) (.tmp 105) rfl Tryd.underlying22 infoF8 rfl (by omega) hown7 rfl _ N (c - a) rdX rfl one2.out (by unfold maxLen; omega) (by omega) (Nat.succ_le_of_lt hKlt7) ?_; intro v8 w8 hown8 hgrow8 _; obtain ⟨A8, c8, rfl⟩ := own_slice hown8; have hK8 := hK7.grown hgrow8 hne4.out; have q0 : w8.cell? ⟨w.heap.size, 0, none⟩ = some (.int .u8 (x0.toNat : Int)) := hK8.cell 0; have q1 : w8.cell? ⟨w.heap.size, 1, none⟩ = some (.int .u8 (x1.toNat : Int)) := hK8.cell 1; have q2 : w8.cell? ⟨w.heap.size, 2, none⟩ = some (.int .u8 (x2.toNat : Int)) := hK8.cell 2; have q3 : w8.cell? ⟨w.heap.size, 3, none⟩ = some (.int .u8 (x3.toNat : Int)) := hK8.cell 3; have q4 : w8.cell? ⟨w.heap.size, 4, none⟩ = some (.int .u8 (x4.toNat : Int)) := hK8.cell 4; have q5 : w8.cell? ⟨w.heap.size, 5, none⟩ = some (.int .u8 (x5.toNat : Int)) := hK8.cell 5; have q6 : w8.cell? ⟨w.heap.size, 6, none⟩ = some (.int .u8 (x6.toNat : Int)) := hK8.cell 6) | fail)
      have hB8 := below_app hB7 hown7 (Nat.le_succ _) (Nat.le_of_lt hKlt7) hgrow8
      have hKlt8 := hK8.lt
      rw [← bvs_append] at hown8
      clear rdX hown7 hK7 hB7 hKlt7 hgrow8 one2
      refine (man.out _).mono ?_
      rintro _ w9 ⟨rfl, k9⟩
      clear q0 q1 q2 q3 q4 q5 q6
      have hK9 := hK8.below k9 hKlt8
      have hown9 := own_below hown8 k9
      have hB9 := hB8.trans (k9.mono (Nat.le_of_lt hKlt8))
      clear hK8 hown8 hB8 hKlt8 k9
      have q6 : w9.cell? ⟨w.heap.size, 6, none⟩ = some (.int .u8 (x6.toNat : Int)) := hK9.cell 6
      by_cases hk2 : x6 = 2
      · have f2 : ((x6.toNat : Int) == 2) = true := by subst hk2; rfl
        go_wp2_with fail
        go_step3
        have hgo : Fr.goesOn x6 = true := by subst hk2; rfl
        have h := hnx.out
        rw [hgo, if_pos rfl] at h
        exact .inr ⟨rfl, ⟨fu', z, m + N, c8, true, acc ++ Fr.sub l a N, _, A8, rfl, h, by omega, hzn.1, hxl.out, by have := hz.out; omega, hown9, hK9, rfl, hB9⟩, by
          show n - (intOf (.int .i64 (z : Int))).toNat < n - (intOf (.int .i64 (q : Int))).toNat
          simp [intOf]
          omega⟩
      by_cases hk3 : x6 = 3
      · have f2 : ((x6.toNat : Int) == 2) = false := by subst hk3; rfl
        have f3 : ((x6.toNat : Int) == 3) = true := by subst hk3; rfl
        go_wp2_with fail
        go_step3
        have hgo : Fr.goesOn x6 = true := by subst hk3; rfl
        have h := hnx.out
        rw [hgo, if_pos rfl] at h
        exact .inr ⟨rfl, ⟨fu', z, m + N, c8, true, acc ++ Fr.sub l a N, _, A8, rfl, h, by omega, hzn.1, hxl.out, by have := hz.out; omega, hown9, hK9, rfl, hB9⟩, by
          show n - (intOf (.int .i64 (z : Int))).toNat < n - (intOf (.int .i64 (q : Int))).toNat
          simp [intOf]
          omega⟩
      have f2 : ((x6.toNat : Int) == 2) = false := by rw [beq_eq_false_iff_ne]; intro h; exact hk2 (UInt8.toNat_inj.1 (by rw [show (2 : UInt8).toNat = 2 from rfl]; omega))
      have f3 : ((x6.toNat : Int) == 3) = false := by rw [beq_eq_false_iff_ne]; intro h; exact hk3 (UInt8.toNat_inj.1 (by rw [show (3 : UInt8).toNat = 3 from rfl]; omega))
      have hcp := own_cap hown9
      go_wp2_with fail
      refine (clip_at _ _ _ _ hcp.1 hcp.2).mono ?_
      rintro _ _ ⟨rfl, rfl⟩
      clear hcp
      go_wp2
      rw [Exit2_ret]
      go_ret3
      have hgo : Fr.goesOn x6 = false := by unfold Fr.goesOn; simp [hk2, hk3]
      have h := hnx.out
      rw [hgo, if_neg (by simp)] at h
      injection h with h1 h
      injection h with h2 h3
      subst h1
      subst h2
      subst h3
      exact ⟨A8, m + N, c8, rfl, hxl.out, own_base hown9 (Nat.le_succ _), hB9⟩
end Go.Proofs.YtnjihcjijicgpaaDoor
