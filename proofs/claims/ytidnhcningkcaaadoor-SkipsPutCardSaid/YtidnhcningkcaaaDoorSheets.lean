/- Sheets of a book that were made one behind the other: each lies in a block of its own. -/
import Derived.Test.YtidnhcningkcaaaDoorBookC
set_option linter.unusedSimpArgs false
set_option linter.unusedVariables false
namespace Go.Proofs.YtidnhcningkcaaaDoor
open Go Go.RowKit Herb

theorem KeepT.blk {w w' : World} (h : KeepT w w') {g : Nat} {cs : Array Value} (hg : Blk w g 5 cs) : Blk w' g 5 cs := h.block g cs _ _ hg (by decide) (by decide)
theorem blk_of_own {w : World} {base n g cap : Nat} {e : TypeId} {xs : List Value} (h : w.ownsRow base e 1 (.slice (some ⟨g, 0, none⟩) n cap) n xs) : ∃ cur, Blk w g e cur ∧ n ≤ cur.size ∧ cap ≤ cur.size ∧ n ≤ cap ∧ base ≤ g ∧ cap ≤ 9223372036854775807 := by
  rcases h.2 with ⟨h0, _⟩ | ⟨g', cap', cur, h0, hbg, hg, hnc, hcm, hcs, _⟩
  · cases h0
  · cases h0
    unfold maxLen at hcm
    exact ⟨cur, (show Blk w g e cur from hg), by omega, by omega, by omega, hbg, by omega⟩
/-- A list of bytes in a block of its own, made between two moments (or one without room). -/
def Own1 (w : World) (B E : Nat) (A : Option Addr) (n c : Nat) : Prop :=
  n ≤ c ∧ c ≤ 9223372036854775807 ∧ (c = 0 ∨ ∃ g cur, A = some ⟨g, 0, none⟩ ∧ B ≤ g ∧ g < E ∧ Blk w g 5 cur ∧ c ≤ cur.size)
theorem Own1.none (w : World) (B E : Nat) : Own1 w B E none 0 0 := ⟨Nat.le_refl _, by omega, .inl rfl⟩
theorem Own1.below {w w' : World} {B E n c : Nat} {A : Option Addr} (h : Own1 w B E A n c) (hb : Below w.heap.size w w') : Own1 w' B E A n c :=
  ⟨h.1, h.2.1, h.2.2.imp id fun ⟨g, cur, e, h1, h2, h3, h4⟩ => ⟨g, cur, e, h1, h2, h3.below hb h3.lt, h4⟩⟩
theorem Own1.keepT {w w' : World} {B E n c : Nat} {A : Option Addr} (h : Own1 w B E A n c) (hb : KeepT w w') : Own1 w' B E A n c :=
  ⟨h.1, h.2.1, h.2.2.imp id fun ⟨g, cur, e, h1, h2, h3, h4⟩ => ⟨g, cur, e, h1, h2, KeepT.blk hb h3, h4⟩⟩
/-- An owned row, cut to its length. -/
theorem Own1.of_row {w : World} {base n cap : Nat} {A : Option Addr} {xs : List Value} (h : w.ownsRow base 5 1 (.slice A n cap) n xs) : Own1 w base w.heap.size A n n := by
  refine ⟨Nat.le_refl _, ?_, ?_⟩
  · rcases h.2 with ⟨h0, h1⟩ | ⟨g', cap', cur, h0, hbg, hg, hnc, hcm, hcs, _⟩
    · omega
    · unfold maxLen at hcm
      omega
  · rcases h.2 with ⟨h0, h1⟩ | ⟨g', cap', cur, h0, hbg, hg, hnc, hcm, hcs, _⟩
    · exact .inl h1
    · cases h0
      have hk : Blk w g' 5 cur := hg
      exact .inr ⟨g', cur, rfl, hbg, hk.lt, hk, by omega⟩
/-- A whole block. -/
theorem Own1.of_blk {w : World} {B g n c : Nat} {cur : Array Value} (hk : Blk w g 5 cur) (hB : B ≤ g) (hnc : n ≤ c) (hc : c ≤ cur.size) (hm : c ≤ 9223372036854775807) : Own1 w B w.heap.size (some ⟨g, 0, Option.none⟩) n c :=
  ⟨hnc, hm, .inr ⟨g, cur, rfl, hB, hk.lt, hk, hc⟩⟩
theorem sheets_ok {w : World} {Q : List Sh} (U : Nat) (B E : Nat → Nat) (hBE : ∀ i j, i < Q.length → j < Q.length → i ≠ j → E i ≤ B j ∨ E j ≤ B i) (hU : ∀ i, i < Q.length → U ≤ B i) (h : ∀ j (hj : j < Q.length), Own1 w (B j) (E j) Q[j].A Q[j].n Q[j].c) : ShSt w Q (fun _ => 0) ∧ ShDis Q ∧ ShUp U Q := by
  refine ⟨fun j hj => ?_, fun i j hi hj hij g g' hci hcj hA hA' => ?_, fun i hi hc g hA => ?_⟩
  · obtain ⟨h1, h2, h3⟩ := h j hj
    refine ⟨h1, h2, h3.imp id fun ⟨g, cur, e, _, _, hk, hs⟩ => ⟨g, cur, e, hk, hs, Nat.zero_le _, fun x hx => absurd hx (Nat.not_lt_zero x)⟩⟩
  · rcases (h i hi).2.2 with h0 | ⟨gi, ci, ei, b1, b2, _, _⟩
    · exact absurd h0 hci
    rcases (h j hj).2.2 with h0 | ⟨gj, cj, ej, d1, d2, _, _⟩
    · exact absurd h0 hcj
    rw [hA] at ei
    rw [hA'] at ej
    cases ei
    cases ej
    have := hBE i j hi hj hij
    omega
  · rcases (h i hi).2.2 with h0 | ⟨gi, ci, ei, b1, b2, _, _⟩
    · exact absurd h0 hc
    rw [hA] at ei
    cases ei
    have := hU i hi
    omega
/-- Two sheets. -/
theorem sheets2 {w : World} {U B0 E0 B1 E1 : Nat} {q0 q1 : Sh} (h0 : Own1 w B0 E0 q0.A q0.n q0.c) (h1 : Own1 w B1 E1 q1.A q1.n q1.c) (hd : E0 ≤ B1 ∨ E1 ≤ B0) (hU0 : U ≤ B0) (hU1 : U ≤ B1) :
    ShSt w [q0, q1] (fun _ => 0) ∧ ShDis [q0, q1] ∧ ShUp U [q0, q1] :=
  sheets_ok U (fun i => match i with | 0 => B0 | _ => B1) (fun i => match i with | 0 => E0 | _ => E1)
    (fun i j hi hj hij => by
      match i, j, hi, hj with
      | 0, 0, _, _ => exact absurd rfl hij
      | 1, 1, _, _ => exact absurd rfl hij
      | 0, 1, _, _ => exact hd
      | 1, 0, _, _ => exact hd.symm)
    (fun i hi => by
      match i, hi with
      | 0, _ => exact hU0
      | 1, _ => exact hU1)
    (fun j hj => by
      match j, hj with
      | 0, _ => exact h0
      | 1, _ => exact h1)
/-- Three sheets. -/
theorem sheets3 {w : World} {U B0 E0 B1 E1 B2 E2 : Nat} {q0 q1 q2 : Sh} (h0 : Own1 w B0 E0 q0.A q0.n q0.c) (h1 : Own1 w B1 E1 q1.A q1.n q1.c) (h2 : Own1 w B2 E2 q2.A q2.n q2.c) (hd01 : E0 ≤ B1 ∨ E1 ≤ B0) (hd02 : E0 ≤ B2 ∨ E2 ≤ B0) (hd12 : E1 ≤ B2 ∨ E2 ≤ B1) (hU0 : U ≤ B0) (hU1 : U ≤ B1) (hU2 : U ≤ B2) :
    ShSt w [q0, q1, q2] (fun _ => 0) ∧ ShDis [q0, q1, q2] ∧ ShUp U [q0, q1, q2] :=
  sheets_ok U (fun i => match i with | 0 => B0 | 1 => B1 | _ => B2) (fun i => match i with | 0 => E0 | 1 => E1 | _ => E2)
    (fun i j hi hj hij => by
      match i, j, hi, hj with
      | 0, 0, _, _ => exact absurd rfl hij
      | 1, 1, _, _ => exact absurd rfl hij
      | 2, 2, _, _ => exact absurd rfl hij
      | 0, 1, _, _ => exact hd01
      | 1, 0, _, _ => exact hd01.symm
      | 0, 2, _, _ => exact hd02
      | 2, 0, _, _ => exact hd02.symm
      | 1, 2, _, _ => exact hd12
      | 2, 1, _, _ => exact hd12.symm)
    (fun i hi => by
      match i, hi with
      | 0, _ => exact hU0
      | 1, _ => exact hU1
      | 2, _ => exact hU2)
    (fun j hj => by
      match j, hj with
      | 0, _ => exact h0
      | 1, _ => exact h1
      | 2, _ => exact h2)
end Go.Proofs.YtidnhcningkcaaaDoor
