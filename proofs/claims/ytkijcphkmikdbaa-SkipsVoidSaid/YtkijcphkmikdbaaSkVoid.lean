/- A list that is not there, or that no call made: what skips' Put, Len, From, All answer. -/
import Derived.Test.YtkijcphkmikdbaaSkAll
set_option linter.unusedSimpArgs false
set_option linter.unusedVariables false
namespace Go.Proofs.Ytkijcphkmikdbaa
open Go Go.RowKit Herb

/-- Marks among an activation's deferred calls: their blocks are empty. -/
def MarksV (B : Nat) (ds : List Nat) (W : World) : Prop := ∀ D ∈ ds, B ≤ D ∧ W.heap[D]? = some (.deferred (some []))
def markV (D : Nat) : Deferred := { target := .collected D, args := #[] }
theorem marksV_own {β : Type} (B : Nat) (ds : List Nat) (C : Nat) (hlt : ∀ D ∈ ds, D < C) : OwnFrom C (fun (_ : β) W => MarksV B ds W) := fun s X Y row h hg hr D hD =>
  ⟨(h D hD).1, (hg.block D (Array.getElem?_eq_some_iff.1 (h D hD).2).1 (fun e => by have := (hr D e.symm).1; have := hlt D hD; omega)).trans (h D hD).2⟩
theorem leaves_marksV {F : Fence} {n : Nat} {P : Program} {fn : Func} {tmps : Array Value} {R : Ending → World → Prop} (B : Nat) : ∀ (ds : List Nat) (W : World), ds.Nodup → MarksV B ds W →
    (∀ W', Below B W W' → (∀ g t cs, Blk W g t cs → Blk W' g t cs) → LeavesInM F n P fn tmps R [] .returning W') → LeavesInM F n P fn tmps R (ds.map markV) .returning W
  | [], W, _, _, h => h W (Below.refl _ _) fun _ _ _ hb => hb
  | D :: ds, W, hnd, hm, h => by
    obtain ⟨hD, ho⟩ := hm D List.mem_cons_self
    rw [List.nodup_cons] at hnd
    refine ⟨by simp, .inl ⟨D, _, rfl, run_takeDeferred ho, ?_⟩⟩
    refine leaves_marksV B ds _ hnd.2 (fun E hE => ⟨(hm E (List.mem_cons_of_mem _ hE)).1, ?_⟩) fun W' hb hk => h W' ?_ ?_
    · rw [World.putObj_heap_other (fun e => hnd.1 (by rw [← e]; exact hE))]
      exact (hm E (List.mem_cons_of_mem _ hE)).2
    · exact ((Below.refl B W).grown (grownBy_putObj' W D _) (by have := (Array.getElem?_eq_some_iff.1 ho).1; omega) (fun k e => by cases e; exact hD)).trans hb
    · intro g t cs hg
      refine hk g t cs ?_
      unfold Blk
      rw [World.putObj_heap_other (fun e => by subst e; unfold Blk at hg; rw [ho] at hg; cases hg)]
      exact hg

theorem MarksV.below {B : Nat} {ds : List Nat} {W W' : World} (h : MarksV B ds W) (hb : Below W.heap.size W W') : MarksV B ds W' := fun D hD =>
  ⟨(h D hD).1, (hb.block D (Array.getElem?_eq_some_iff.1 (h D hD).2).1).trans (h D hD).2⟩
theorem MarksV.lt {B : Nat} {ds : List Nat} {W : World} (h : MarksV B ds W) : ∀ D ∈ ds, D < W.heap.size := fun D hD => (Array.getElem?_eq_some_iff.1 (h D hD).2).1

theorem results_cell_boolV {P : Program} {fn : Func} {p : Tmp} {ty : TypeId} (h : fn.results = #[.cell p ty]) (tmps : Array Value) (w : World) (g : Nat) (b : Bool)
    (hp : tmps.getD p undef = .pointer (some ⟨g, 0, none⟩)) (hu : P.underlying ty = some .bool) (hc : w.cell? ⟨g, 0, none⟩ = some (.bool b)) : (results fn tmps).run P w = .ok (.bool b) w := by
  have hp' : tmps[p]?.getD undef = .pointer (some ⟨g, 0, none⟩) := by simpa using hp
  simp [results, h, hp', asAddr, loadVar, isAgg, run_underlying hu, hc, go_sem]

/-- No list: nil, or one without nodes. -/
def VoidL (q : Option Addr) (w : World) : Prop := q = none ∨ ∃ p, q = some ⟨p, 0, none⟩ ∧ Boxed w p 42 (.slice none 0 0)
theorem VoidL.below {q : Option Addr} {w w' : World} (h : VoidL q w) (hb : Below w.heap.size w w') : VoidL q w' := by
  rcases h with h | ⟨p, h, hx⟩
  · exact .inl h
  · exact .inr ⟨p, h, (hb.block _ hx.lt).trans hx⟩

theorem there_no (w : World) (q : Option Addr) (h : VoidL q w) :
    Calls Try.prog 15 #[.pointer q] w fun e w' => e = .returned (.bool false) ∧ w = w' := by
  rcases h with rfl | ⟨p, rfl, hx⟩
  · go_enter Try.func15, Try.ntmps15
    go_wp2
    go_ret
    exact ⟨rfl, rfl⟩
  · have hc := hx.cell
    go_enter Try.func15, Try.ntmps15
    go_wp2
    go_ret
    exact ⟨rfl, rfl⟩
theorem len_void (w : World) (q : Option Addr) (h : VoidL q w) :
    Calls Try.prog 11 #[.pointer q] w fun e w' => e = .returned (.int .i64 0) ∧ w = w' := by
  have ht := there_no w q h
  go_enter Try.func11, Try.ntmps11
  go_wp2_with fail
  refine ht.mono ?_
  clear ht
  rintro _ _ ⟨rfl, rfl⟩
  go_wp2
  go_ret
  exact ⟨rfl, rfl⟩
theorem put_void (w : World) (q : Option Addr) (h : VoidL q w) (A : Option Addr) (n c : Nat) (x H : Int) :
    Calls Try.prog 9 #[.pointer q, .slice A n c, .int .i64 x, .int .i64 H] w fun e w' => e = .returned (.int .i64 2) ∧ w = w' := by
  have ht := there_no w q h
  go_enter Try.func9, Try.ntmps9
  go_wp2_with fail
  refine ht.mono ?_
  clear ht
  rintro _ _ ⟨rfl, rfl⟩
  go_wp2
  go_ret
  exact ⟨rfl, rfl⟩
theorem all_void (w : World) (q : Option Addr) :
    Calls Try.prog 14 #[.pointer q] w fun e w' => ∃ A' c', e = .returned (.func (.func 19) #[] #[.pointer (some ⟨w.heap.size, 0, none⟩), .pointer (some ⟨w.heap.size + 1, 0, none⟩)]) ∧
      Boxed w' w.heap.size 24 (.pointer q) ∧ Boxed w' (w.heap.size + 1) 26 (.slice A' 0 c') ∧ Bs w' A' [] ∧ Below w.heap.size w w' := by
  have hf := from_any w q [] none 0 0 rfl (by omega) (Bs.nil_ w none)
  go_enter Try.func14, Try.ntmps14
  go_wp2_with fail
  refine hf.mono ?_
  clear hf
  rintro _ w1 ⟨A', c', rfl, h1, h2, h3, h4⟩
  go_wp2
  go_ret
  exact ⟨A', c', rfl, h1, h2, h3, h4⟩
/-- From's function hands over nothing. -/
theorem void_seq (n C B : Nat) (q : Option Addr) (w : World) (hv : VoidL q w) (hC : Boxed w C 24 (.pointer q)) :
    SeqE Fence.wide n Try.prog 19 #[.pointer (some ⟨C, 0, none⟩), .pointer (some ⟨C + 1, 0, none⟩)] EncK (Below B) [] w := by
  intro l J Jx W hW hJ _ hY h0
  have ht := there_no W q (hv.below hW)
  have hC1 : Boxed W C 24 (.pointer q) := (hW.block _ hC.lt).trans hC
  have hcc := hC1.cell
  show CallsIn Fence.wide n Try.prog 19 #[.func (.yield l) #[] #[], .pointer (some ⟨C, 0, none⟩), .pointer (some ⟨C + 1, 0, none⟩)] W _
  refine callsIn_wide.2 ?_
  go_enter Try.func19, Try.ntmps19
  go_wp2_with fail
  refine ht.mono ?_
  clear ht
  rintro _ _ ⟨rfl, rfl⟩
  go_wp2
  go_end0
  exact ⟨⟨_, rfl⟩, .inl h0⟩
/-- A range over a function that hands over nothing. -/
theorem wpIn_range_none {n : Nat} {P : Program} {g : Operand} {ps : Array Tmp} {body : Code} {Q : Exit → Act → World → Prop} {a : Act} {w : World} (h1 : 1 ≤ n) (hps : ps.size = 2) {gf : Nat} {lb : Array Value} (hg : a.eval g = .func (.func gf) #[] lb)
    (eg : ∀ args w, (callFunc gf args).run P w = .ok (.enter gf args) w) {B : Nat} (hseq : SeqE Fence.wide (n - 1) P gf lb EncK (Below B) [] w) (hB : B ≤ w.heap.size)
    (hdone : ∀ (D : Nat) (W : World), w.heap.size ≤ D → Below w.heap.size w W → W.heap[D]? = some (.deferred (some [])) → Q .normal { a with defers := markV D :: a.defers } W) :
    (Code.rangeFunc g ps .skip body).wpIn Fence.wide n P Q a w := by
  refine wpIn_range_E rfl h1 hg trivial eg hseq belowK_t (belowK_b hB) (Below.refl _ _) (fun x vs W he => by obtain ⟨A, c, rfl, _⟩ := he; rw [hps]; rfl) (enc_own _)
    (fun pre W => Below w.heap.size w W) (fun _ _ _ => False) (ownFrom_below (Nat.le_refl _) (Nat.le_refl _)) (fun cd s X Y row h _ _ => h) (Below.refl _ _)
    (fun vs => { tmps := (ps.zip vs).foldl (fun t (p, v) => t.setIfInBounds p v) a.tmps, defers := [] }) ?assign ?body ?done ?stop
  case assign =>
    intro l x vs W K _ hK
    exact wpIn_skip hK
  case body =>
    intro l pre x vs W _ hpx _
    have := hpx.length_le
    simp at this
  case done =>
    intro D W hD hI hK
    exact hdone D W hD hI hK
  case stop =>
    intro D c pre W _ _ h _
    exact h.elim
end Go.Proofs.Ytkijcphkmikdbaa
