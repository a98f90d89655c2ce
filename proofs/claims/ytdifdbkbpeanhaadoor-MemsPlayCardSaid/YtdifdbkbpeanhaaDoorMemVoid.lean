/- A mem that is not there, or that no call made: what Put, Len, Bytes, Freeze, Frozen, Facts, From answer. -/
import Derived.Test.YtdifdbkbpeanhaaDoorMemLives
set_option linter.unusedSimpArgs false
set_option linter.unusedVariables false
namespace Go.Proofs.YtdifdbkbpeanhaaDoor
open Go Go.RowKit Go.Shelf Herb
attribute [local go_sem] Oper.semAt_some

/-- Marks among an activation's deferred calls: their blocks are empty. -/
def MarksV (B : Nat) (ds : List Nat) (W : World) : Prop := ∀ D ∈ ds, B ≤ D ∧ W.heap[D]? = some (.deferred (some []))
def markV (D : Nat) : Deferred := { target := .collected D, args := #[] }
theorem leaves_marksV {F : Fence} {n : Nat} {P : Program} {fn : Func} {tmps : Array Value} {R : Ending → World → Prop} (B : Nat) : ∀ (ds : List Nat) (W : World), ds.Nodup → MarksV B ds W →
    (∀ W', Below B W W' → (∀ g t cs, Blk W g t cs → Blk W' g t cs) → LeavesInM F n P fn tmps R [] .returning W') → LeavesInM F n P fn tmps R (ds.map markV) .returning W
  | [], W, _, _, h => h W (Below.refl _ _) fun _ _ _ hb => hb
  | D :: ds, W, hnd, hm, h => by
    obtain ⟨hD, ho⟩ := hm D List.mem_cons_self
    rw [List.nodup_cons] at hnd
    refine ⟨by simp, .inl ⟨D, _, rfl, run_takeDeferred ho, ?_⟩⟩
    refine leaves_marksV B ds _ hnd.2 (fun E hE => ⟨(hm E (List.mem_cons_of_mem _ hE)).1, ?_⟩) fun W' hb hk => h W' ?_ ?_
    · rw [World.putObj_heap_other (fun e => hnd.1 (by rw [← e]; exact hE))]
      exact (hm E (List.mem_cons_of_mem _ hE)).2
    · exact ((Below.refl B W).grown (grownBy_putObj' W D _) (by have := (Array.getElem?_eq_some_iff.1 ho).1; omega) (fun k e => by cases e; exact hD)).trans hb
    · intro g t cs hg
      refine hk g t cs ?_
      unfold Blk
      rw [World.putObj_heap_other (fun e => by subst e; unfold Blk at hg; rw [ho] at hg; cases hg)]
      exact hg
theorem MarksV.below {B : Nat} {ds : List Nat} {W W' : World} (h : MarksV B ds W) (hb : Below W.heap.size W W') : MarksV B ds W' := fun D hD =>
  ⟨(h D hD).1, (hb.block D (Array.getElem?_eq_some_iff.1 (h D hD).2).1).trans (h D hD).2⟩
theorem MarksV.lt {B : Nat} {ds : List Nat} {W : World} (h : MarksV B ds W) : ∀ D ∈ ds, D < W.heap.size := fun D hD => (Array.getElem?_eq_some_iff.1 (h D hD).2).1
theorem results_cell_boolV {P : Program} {fn : Func} {p : Tmp} {ty : TypeId} (h : fn.results = #[.cell p ty]) (tmps : Array Value) (w : World) (g : Nat) (b : Bool)
    (hp : tmps.getD p undef = .pointer (some ⟨g, 0, none⟩)) (hu : P.underlying ty = some .bool) (hc : w.cell? ⟨g, 0, none⟩ = some (.bool b)) : (results fn tmps).run P w = .ok (.bool b) w := by
  have hp' : tmps[p]?.getD undef = .pointer (some ⟨g, 0, none⟩) := by simpa using hp
  simp [results, h, hp', asAddr, loadVar, isAgg, run_underlying hu, hc, go_sem]

/-- No mem: nil, or one that no call made. -/
def VoidM (q : Option Addr) (w : World) : Prop := q = none ∨ ∃ p, q = some ⟨p, 0, none⟩ ∧ Blk w p 56 #[.pointer none, .slice none 0 0, .int .i64 0, .bool false]
theorem VoidM.below {q : Option Addr} {w w' : World} (h : VoidM q w) (hb : Below w.heap.size w w') : VoidM q w' := by
  rcases h with h | ⟨p, h, hx⟩
  · exact .inl h
  · exact .inr ⟨p, h, hx.below hb hx.lt⟩
theorem mthere_no (w : World) (q : Option Addr) (h : VoidM q w) :
    Calls Tryd.prog 22 #[.pointer q] w fun e w' => e = .returned (.bool false) ∧ w = w' := by
  rcases h with rfl | ⟨p, rfl, hx⟩
  · go_enter Tryd.func22, Tryd.ntmps22
    go_wp2
    go_ret
    exact ⟨rfl, rfl⟩
  · have hc := hx.cell
    go_enter Tryd.func22, Tryd.ntmps22
    go_wp2
    go_ret
    exact ⟨rfl, rfl⟩
theorem mlen_void (w : World) (q : Option Addr) (h : VoidM q w) :
    Calls Tryd.prog 11 #[.pointer q] w fun e w' => e = .returned (.int .i64 0) ∧ w = w' := by
  have ht := mthere_no w q h
  clear h
  go_enter Tryd.func11, Tryd.ntmps11
  go_wp2_with fail
  refine ht.mono ?_
  clear ht
  rintro _ _ ⟨rfl, rfl⟩
  go_wp2
  go_ret
  exact ⟨rfl, rfl⟩
theorem mbytes_void (w : World) (q : Option Addr) (h : VoidM q w) :
    Calls Tryd.prog 12 #[.pointer q] w fun e w' => e = .returned (.int .i64 0) ∧ w = w' := by
  have ht := mthere_no w q h
  clear h
  go_enter Tryd.func12, Tryd.ntmps12
  go_wp2_with fail
  refine ht.mono ?_
  clear ht
  rintro _ _ ⟨rfl, rfl⟩
  go_wp2
  go_ret
  exact ⟨rfl, rfl⟩
theorem mfrozen_void (w : World) (q : Option Addr) (h : VoidM q w) :
    Calls Tryd.prog 14 #[.pointer q] w fun e w' => e = .returned (.bool false) ∧ w = w' := by
  have ht := mthere_no w q h
  clear h
  go_enter Tryd.func14, Tryd.ntmps14
  go_wp2_with fail
  refine ht.mono ?_
  clear ht
  rintro _ _ ⟨rfl, rfl⟩
  go_wp2
  go_ret
  exact ⟨rfl, rfl⟩
theorem mfreeze_void (w : World) (q : Option Addr) (h : VoidM q w) :
    Calls Tryd.prog 8 #[.pointer q] w fun e w' => (∃ v, e = .returned v) ∧ w = w' := by
  have ht := mthere_no w q h
  clear h
  go_enter Tryd.func8, Tryd.ntmps8
  go_wp2_with fail
  refine ht.mono ?_
  clear ht
  rintro _ _ ⟨rfl, rfl⟩
  go_wp2
  go_end0
  exact ⟨⟨_, rfl⟩, rfl⟩
theorem mfacts_void (w : World) (q : Option Addr) (h : VoidM q w) :
    Calls Tryd.prog 16 #[.pointer q] w fun e w' => e = .returned (.slice none 0 0) ∧ w = w' := by
  have ht := mthere_no w q h
  clear h
  go_enter Tryd.func16, Tryd.ntmps16
  go_wp2_with fail
  refine ht.mono ?_
  clear ht
  rintro _ _ ⟨rfl, rfl⟩
  go_wp2
  go_ret
  exact ⟨rfl, rfl⟩
theorem mput_void (w : World) (q : Option Addr) (h : VoidM q w) (f : Ft) (H : Int) :
    Calls Tryd.prog 9 #[.pointer q, f.val, .int .i64 H] w fun e w' => e = .returned (.int .i64 2) ∧ Below w.heap.size w w' := by
  have hb := (Below.refl w.heap.size w).alloc (Nat.le_refl _) (.cells #[.string f.k, .int .u32 (f.va : Int), .int .u64 (f.se : Int), .int .u64 (f.li : Int), .int .u8 (f.ki : Int), .string f.v] 27)
  have ht := mthere_no _ q (h.below hb)
  clear h
  go_enter Tryd.func9, Tryd.ntmps9
  go_wp2_with fail
  refine ht.mono ?_
  clear ht
  rintro _ _ ⟨rfl, rfl⟩
  go_wp2
  go_ret
  exact ⟨rfl, hb⟩
/-- From's function hands over nothing. -/
theorem mvoid_seq (n B1 B2 B3 B : Nat) (q : Option Addr) (w : World) (hv : VoidM q w) (h1 : Boxed w B1 30 (.pointer q)) :
    SeqF Fence.wide n Tryd.prog 50 #[.pointer (some ⟨B1, 0, none⟩), .pointer (some ⟨B2, 0, none⟩), .pointer (some ⟨B3, 0, none⟩)] EncF (fun _ => Below B) [] w := by
  intro l J Jx W hl hW hJ _ hY h0
  have ht := mthere_no W q (hv.below hW)
  have hC1 : Boxed W B1 30 (.pointer q) := (hW.block _ h1.lt).trans h1
  have hcc := hC1.cell
  show CallsIn Fence.wide n Tryd.prog 50 #[.func (.yield l) #[] #[], .pointer (some ⟨B1, 0, none⟩), .pointer (some ⟨B2, 0, none⟩), .pointer (some ⟨B3, 0, none⟩)] W _
  refine callsIn_wide.2 ?_
  go_enter Tryd.func50, Tryd.ntmps50
  go_wp2_with fail
  refine ht.mono ?_
  clear ht
  rintro _ _ ⟨rfl, rfl⟩
  go_wp2
  go_end0
  exact ⟨⟨_, rfl⟩, .inl h0⟩
/-- A range over a function that hands over nothing. -/
theorem wpIn_range_noneF {n : Nat} {P : Program} {g : Operand} {ps : Array Tmp} {assign body : Code} {Q : Exit → Act → World → Prop} {a : Act} {w : World} (h1 : 1 ≤ n) (hps : ps.size = 1) {gf : Nat} {lb : Array Value} (hg : a.eval g = .func (.func gf) #[] lb)
    (eg : ∀ args w, (callFunc gf args).run P w = .ok (.enter gf args) w) {B : Nat} (hseq : SeqF Fence.wide (n - 1) P gf lb EncF (fun _ => Below B) [] w) (hB : B ≤ w.heap.size)
    (hassign : ∀ (l : Nat) (x : Ft) (vs : Array Value) (W : World) (K : Act → World → Prop), EncF x vs W → (∀ a' W', KeepsFrom w.heap.size W W' → Below B W W' → Below w.heap.size W W' → K a' W') →
      assign.wpIn (Fence.wide.inRound l) (n - 1 - 1) P (Exit.then K (fun _ _ _ => False)) { tmps := (ps.zip vs).foldl (fun t (p, v) => t.setIfInBounds p v) a.tmps, defers := [] } W)
    (hdone : ∀ (D : Nat) (W : World), w.heap.size ≤ D → Below w.heap.size w W → W.heap[D]? = some (.deferred (some [])) → Q .normal { a with defers := markV D :: a.defers } W) :
    (Code.rangeFunc g ps assign body).wpIn Fence.wide n P Q a w := by
  refine wpIn_range_F rfl h1 hg trivial eg hseq belowK_t (fun W o o' h1 h2 h3 => belowK_b hB W _ o o' (by omega) h1 h2 h3) (Below.refl _ _) (fun x vs W he => by rw [he, hps]; rfl) (fun x vs => ownFrom_pure _ _)
    (fun pre W => Below w.heap.size w W) (fun _ _ _ => False) (ownFrom_below (Nat.le_refl _) (Nat.le_refl _)) (fun cd s X Y row h _ _ => h) (Below.refl _ _)
    (fun vs a' W => True) (fun vs a' s X Y row h _ _ => h) ?assign ?body ?done ?stop
  case assign =>
    intro l pre x vs W K hI he hK
    exact hassign l x vs W K he (fun a' W' h1 h2 h3 => hK a' W' h1 h2 (hI.trans h3) he trivial)
  case body =>
    intro l pre x vs a' W _ _ hpx _ _
    have := hpx.length_le
    simp at this
  case done =>
    intro D W hD hI hK
    exact hdone D W hD hI hK
  case stop =>
    intro D c pre W _ _ h _
    exact h.elim
end Go.Proofs.YtdifdbkbpeanhaaDoor
