/- A range over a function whose iterator itself ranges over another one (an adapter): the caller's invariants abide the turn of whatever was laid since and is no cells. Regions in a round of a range over a function, at any fence: what holds of a region that draws its order holds in a round, where no defer statement stands in it. No function of the program is named. Facts in memory. No function of the program is named. -/
import Derived.Test.YtdifdbkbpeanhaaDoorSeqE
import Derived.RangeFuncBound
import Derived.Test.YtdifdbkbpeanhaaDoorMg1
import Derived.OrdersIn
import Derived.TacticsIn
import Derived.KernelRfl
set_option linter.unusedSimpArgs false
set_option linter.unusedVariables false
namespace Herb
open Go Go.RowKit
variable {F : Fence} {n : Nat} {P : Program}

/-- The iterator, at every invariant that abides what it makes, hands over xs, one by one; each lies as Enc says. -/
def SeqF {α : Type} (F : Fence) (n : Nat) (P : Program) (g : Nat) (lb : Array Value) (Enc : α → Array Value → World → Prop) (Kp : Nat → World → World → Prop) (xs : List α) (w : World) : Prop :=
  ∀ (l : Nat) (J Jx : List α → World → Prop) (W : World), l < W.heap.size → Below w.heap.size w W → OwnFrom W.heap.size J → OwnFrom W.heap.size Jx →
    (∀ pre x vs W1, J pre W1 → pre ++ [x] <+: xs → Enc x vs W1 → YieldAt F (n - 1) P l vs W1 fun e W' =>
      (e = .returned (.bool true) ∧ J (pre ++ [x]) W' ∧ Kp l W1 W') ∨ (e = .returned (.bool false) ∧ Jx (pre ++ [x]) W' ∧ Kp l W1 W')) →
    J [] W →
    CallsIn F n P g (#[.func (.yield l) #[] #[]] ++ lb) W fun e W' => (∃ v, e = .returned v) ∧ (J xs W' ∨ (∃ pre, pre <+: xs ∧ Jx pre W'))

/-- What a body owes: also where it leaves, it keeps what a round keeps. -/
def ownPostF {α : Type} (B : Nat) (Kp : World → World → Prop) (I : List α → World → Prop) (Ix : Code → List α → World → Prop) (xs : List α) (W : World) : Exit → Act → World → Prop
  | .normal, _, W' => KeepsFrom B W W' ∧ Kp W W' ∧ I xs W'
  | .ret, _, W' => KeepsFrom B W W' ∧ Kp W W' ∧ Ix .ret xs W'
  | .exit id, _, W' => KeepsFrom B W W' ∧ Kp W W' ∧ Ix (.exit id) xs W'
  | .goto t, _, W' => KeepsFrom B W W' ∧ Kp W W' ∧ Ix (.goto t) xs W'
  | .panic _, _, _ => False
  | .outgrown, _, _ => False

theorem wpIn_range_F {α : Type} {g : Operand} {ps : Array Tmp} {assign body : Code} {Q : Exit → Act → World → Prop} {a : Act} {w : World}
    (hro : F.round = none) (h1 : 1 ≤ n) {gf : Nat} {lb : Array Value} (hg : a.eval g = .func (.func gf) #[] lb) (hFg : F.fn gf) (eg : ∀ args w, (callFunc gf args).run P w = .ok (.enter gf args) w)
    {Enc : α → Array Value → World → Prop} {Kp : Nat → World → World → Prop} {ls : List α} {w0 : World} (hseq : SeqF F (n - 1) P gf lb Enc Kp ls w0)
    (hKt : ∀ {A B C : World}, Kp (w.heap.size + 1) A B → Kp (w.heap.size + 1) B C → Kp (w.heap.size + 1) A C) (hKb : ∀ (W : World) (o o' : Obj), W.heap[w.heap.size + 1]? = some o → o.isCells = false → o.isWalk = false → Kp (w.heap.size + 1) W (W.putObj (w.heap.size + 1) o')) (hb0 : Below w0.heap.size w0 w) (hps : ∀ x vs W, Enc x vs W → vs.size = ps.size) (hEnc : ∀ x vs, OwnFrom w.heap.size (fun (_ : Unit) W => Enc x vs W))
    (I : List α → World → Prop) (Ix : Code → List α → World → Prop) (hI : OwnFrom w.heap.size I) (hIx : ∀ c, OwnFrom w.heap.size (Ix c)) (h0 : I [] w) (Ax : Array Value → Act → World → Prop) (hAx : ∀ vs a', OwnFrom w.heap.size (fun (_ : Unit) W => Ax vs a' W))
    (hassign : ∀ (l : Nat) (pre : List α) (x : α) (vs : Array Value) (W : World) (K : Act → World → Prop), I pre W → Enc x vs W → (∀ a' W', KeepsFrom w.heap.size W W' → Kp (w.heap.size + 1) W W' → I pre W' → Enc x vs W' → Ax vs a' W' → K a' W') →
      assign.wpIn (F.inRound l) (n - 1 - 1) P (Exit.then K (fun _ _ _ => False)) { tmps := (ps.zip vs).foldl (fun t (p, v) => t.setIfInBounds p v) a.tmps, defers := [] } W)
    (hbody : ∀ (l : Nat) (pre : List α) (x : α) (vs : Array Value) (a' : Act) (W : World), w.heap.size ≤ l → I pre W → pre ++ [x] <+: ls → Enc x vs W → Ax vs a' W → body.wpIn (F.inRound l) (n - 1 - 1) P (ownPostF w.heap.size (Kp (w.heap.size + 1)) I Ix (pre ++ [x]) W) a' W)
    (hdone : ∀ (D : Nat) (W : World), w.heap.size ≤ D → I ls W → W.heap[D]? = some (.deferred (some [])) → Q .normal { a with defers := { target := .collected D, args := #[] } :: a.defers } W)
    (hstop : ∀ (D : Nat) (c : Code) (pre : List α) (W : World), w.heap.size ≤ D → pre <+: ls → Ix c pre W → W.heap[D]? = some (.deferred (some [])) → c.wpIn F n P Q { a with defers := { target := .collected D, args := #[] } :: a.defers } W) :
    (Code.rangeFunc g ps assign body).wpIn F n P Q a w := by
  refine wpIn_rangeFunc ?_
  intro fn hfn
  rw [hro]
  obtain ⟨rec, hrec⟩ : ∃ rec : LoopState → Option Code → Loop, rec = fun st pe => { state := st, pending := pe, fn, tmps := a.tmps, params := ps, assign, body, defers := w.heap.size } := ⟨_, rfl⟩
  obtain ⟨W1, hW1⟩ : ∃ W1, (w.alloc (.deferred (some []))).alloc (.loop (rec .ready none)) = W1 := ⟨_, rfl⟩
  have hL1 : W1.heap[w.heap.size + 1]? = some (.loop (rec .ready none)) := by
    rw [← hW1]; have := World.alloc_heap_new (w.alloc (.deferred (some []))) (.loop (rec .ready none)); rwa [World.size_alloc] at this
  have hK1 : W1.heap[w.heap.size]? = some (.deferred (some [])) := by
    rw [← hW1]; exact (Below.heap_alloc _ _ _ (by simp)).trans (World.alloc_heap_new w _)
  have hI1 : I [] W1 := by rw [← hW1]; exact hI.alloc _ (hI.alloc _ h0)
  have hb1 : Below w0.heap.size w0 W1 := by
    rw [← hW1]; exact hb0.trans ((((Below.refl _ w).alloc (Nat.le_refl _) _).alloc (by simp) _).mono hb0.size)
  refine ⟨w.heap.size + 1, [{ target := .collected w.heap.size, args := #[] }], W1, { target := .fn (.func gf) lb, args := #[.func (.yield (w.heap.size + 1)) #[] #[]] }, W1, gf,
    #[.func (.yield (w.heap.size + 1)) #[] #[]] ++ lb, W1, ?_, ?_, ?_, ?_, fun _ => h1, ?_⟩
  · rw [← hW1, hrec]; exact run_enterLoop_outer _ _ _ _ _
  · simp only [resolve, hg]
    simp [go_sem]
  · intro f' hf'; simp [Target.leads] at hf'; subst hf'; exact hFg
  · simp [invoke, go_sem, eg]
  · have hsz1 : W1.heap.size = w.heap.size + 2 := by rw [← hW1]; simp
    have hnw : ∀ {A : World} {row : Option Nat}, (∀ r, row = some r → W1.heap.size ≤ r ∧ ∃ o : Obj, A.heap[r]? = some o ∧ o.isCells = false) → (∀ r, row = some r → w.heap.size ≤ r ∧ ∃ o : Obj, A.heap[r]? = some o ∧ o.isCells = false) :=
      fun hr r e => ⟨by have := (hr r e).1; omega, (hr r e).2⟩
    have hst : ∀ {A B : World} {row : Option Nat} {k : Nat} {o : Obj}, A.grownBy B row → (∀ r, row = some r → W1.heap.size ≤ r ∧ ∃ o : Obj, A.heap[r]? = some o ∧ o.isCells = false) → k < W1.heap.size → A.heap[k]? = some o → B.heap[k]? = some o :=
      fun {A B row k o} hg' hr hk ho => (hg'.block k (Array.getElem?_eq_some_iff.1 ho).1 (fun e => by have := (hr k e.symm).1; omega)).trans ho
    refine (hseq (w.heap.size + 1)
      (fun pre W => I pre W ∧ W.heap[w.heap.size + 1]? = some (.loop (rec .ready none)) ∧ W.heap[w.heap.size]? = some (.deferred (some [])))
      (fun pre W => ∃ c, Ix c pre W ∧ W.heap[w.heap.size + 1]? = some (.loop (rec .done (some c))) ∧ W.heap[w.heap.size]? = some (.deferred (some [])))
      W1 (by rw [hsz1]; omega) hb1
      (fun s A B row hs hg' hr => ⟨hI s A B row hs.1 hg' (hnw hr), hst hg' hr (by omega) hs.2.1, hst hg' hr (by omega) hs.2.2⟩)
      (fun s A B row hs hg' hr => by
        obtain ⟨c, hc, hl, hk⟩ := hs
        exact ⟨c, hIx c s A B row hc hg' (hnw hr), hst hg' hr (by omega) hl, hst hg' hr (by omega) hk⟩)
      ?_ ⟨hI1, hL1, hK1⟩).mono ?_
    · rintro pre x vs W ⟨hi, hl, hk⟩ hlen he
      have hlt : w.heap.size + 1 < W.heap.size := (Array.getElem?_eq_some_iff.1 hl).1
      have hy := run_yield (P := P) (args := vs) hl (by rw [hrec]; exact hps x vs W he)
      rw [hrec] at hy
      refine ⟨fn, _, assign, body, hy, roundIn_of_wpIn hfn (hassign _ pre x vs W _ hi he (fun a' W' hkf hkp hi' he' hax => ?_))⟩
      have hl' := hkf.same _ _ (by omega) hl rfl
      have hk' := hkf.same _ _ (Nat.le_refl _) hk rfl
      have hlt' : w.heap.size + 1 < W'.heap.size := (Array.getElem?_eq_some_iff.1 hl').1
      refine ⟨_, run_beginRound hl' (by rw [hrec]), ?_⟩
      clear hi he hl hk hlt hy
      have hl2 : (W'.putObj (w.heap.size + 1) (.loop { rec .ready none with state := .busy })).heap[w.heap.size + 1]? = some (.loop { rec .ready none with state := .busy }) := World.putObj_heap_same hlt'
      have hk2 : (W'.putObj (w.heap.size + 1) (.loop { rec .ready none with state := .busy })).heap[w.heap.size]? = some (.deferred (some [])) := (World.putObj_heap_other (by omega)).trans hk'
      have hw2 : Kp (w.heap.size + 1) W (W'.putObj (w.heap.size + 1) (.loop { rec .ready none with state := .busy })) := hKt hkp (hKb _ _ _ hl' rfl rfl)
      refine wpIn_mono (hbody _ pre x vs a' _ (by omega) (hI.putObj _ hi' (by omega) hl' rfl) hlen ((hEnc x vs).putObj (s := ()) _ he' (by omega) hl' rfl) ((hAx vs a').putObj (s := ()) _ hax (by omega) hl' rfl)) ?_
      have fin : ∀ (jump : Option Code) (W3 : World), KeepsFrom w.heap.size (W'.putObj (w.heap.size + 1) (.loop { rec .ready none with state := .busy })) W3 →
          (Instr.endRound (w.heap.size + 1) jump).run P W3 = .ok (.bool jump.isNone) (W3.putObj (w.heap.size + 1) (.loop (rec (if jump.isNone then .ready else .done) jump))) ∧
          W3.heap[w.heap.size + 1]? = some (.loop { rec .ready none with state := .busy }) ∧
          (W3.putObj (w.heap.size + 1) (.loop (rec (if jump.isNone then .ready else .done) jump))).heap[w.heap.size + 1]? = some (.loop (rec (if jump.isNone then .ready else .done) jump)) ∧
          (W3.putObj (w.heap.size + 1) (.loop (rec (if jump.isNone then .ready else .done) jump))).heap[w.heap.size]? = some (.deferred (some [])) := fun jump W3 hk3 => by
        have hl3 := hk3.same _ _ (by omega) hl2 rfl
        have := run_endRound (P := P) jump hl3
        rw [hrec] at this ⊢
        exact ⟨this, by rw [hrec] at hl3; exact hl3, World.putObj_heap_same (Array.getElem?_eq_some_iff.1 hl3).1, (World.putObj_heap_other (by omega)).trans (hk3.same _ _ (Nat.le_refl _) hk2 rfl)⟩
      rintro e a3 W3 hp
      cases e with
      | normal =>
        obtain ⟨hk3, hkp3, hi3⟩ := hp
        obtain ⟨hr, hl3, hl4, hk4⟩ := fin none W3 hk3
        exact ⟨_, _, hr, .inl ⟨rfl, ⟨hI.putObj _ hi3 (by omega) hl3 rfl, hl4, hk4⟩, hKt (hKt hw2 hkp3) (hKb _ _ _ hl3 rfl rfl)⟩⟩
      | ret =>
        obtain ⟨hk3, hkp3, hi3⟩ := hp
        obtain ⟨hr, hl3, hl4, hk4⟩ := fin (some .ret) W3 hk3
        exact ⟨_, _, hr, .inr ⟨rfl, ⟨.ret, (hIx _).putObj _ hi3 (by omega) hl3 rfl, hl4, hk4⟩, hKt (hKt hw2 hkp3) (hKb _ _ _ hl3 rfl rfl)⟩⟩
      | exit id =>
        obtain ⟨hk3, hkp3, hi3⟩ := hp
        obtain ⟨hr, hl3, hl4, hk4⟩ := fin (some (.exit id)) W3 hk3
        exact ⟨_, _, hr, .inr ⟨rfl, ⟨.exit id, (hIx _).putObj _ hi3 (by omega) hl3 rfl, hl4, hk4⟩, hKt (hKt hw2 hkp3) (hKb _ _ _ hl3 rfl rfl)⟩⟩
      | goto t =>
        obtain ⟨hk3, hkp3, hi3⟩ := hp
        obtain ⟨hr, hl3, hl4, hk4⟩ := fin (some (.goto t)) W3 hk3
        exact ⟨_, _, hr, .inr ⟨rfl, ⟨.goto t, (hIx _).putObj _ hi3 (by omega) hl3 rfl, hl4, hk4⟩, hKt (hKt hw2 hkp3) (hKb _ _ _ hl3 rfl rfl)⟩⟩
      | panic ch => exact hp.elim
      | outgrown => exact hp.elim
    · rintro e W2 ⟨⟨v, rfl⟩, (⟨hi, hl, hk⟩ | ⟨pre, hSp, c, hi, hl, hk⟩)⟩
      · exact ⟨none, _, by have := run_endLoop (P := P) hl (by rw [hrec]; simp); rw [hrec] at this; exact this, hdone _ _ (Nat.le_refl _) (hI.putObj _ hi (by omega) hl rfl) ((World.putObj_heap_other (by omega)).trans hk)⟩
      · exact ⟨some c, _, by have := run_endLoop (P := P) hl (by rw [hrec]; simp); rw [hrec] at this; exact this, hstop _ c pre _ (Nat.le_refl _) hSp ((hIx c).putObj _ hi (by omega) hl rfl) ((World.putObj_heap_other (by omega)).trans hk)⟩


/-- The one contract out of the other. -/
theorem SeqE.toF {α : Type} {g : Nat} {lb : Array Value} {Enc : α → Array Value → World → Prop} {Kp : World → World → Prop} {xs : List α} {w : World} (h : SeqE F n P g lb Enc Kp xs w) : SeqF F n P g lb Enc (fun _ => Kp) xs w :=
  fun l J Jx W _ hW hJ hJx hY h0 => h l J Jx W hW (fun s A B row hs hg hr => hJ s A B row hs hg (fun r e => ⟨(hr r e).1, by obtain ⟨o, ho, hw⟩ := (hr r e).2; exact ⟨o, ho, Obj.not_cells_of_walk hw⟩⟩))
    (fun s A B row hs hg hr => hJx s A B row hs hg (fun r e => ⟨(hr r e).1, by obtain ⟨o, ho, hw⟩ := (hr r e).2; exact ⟨o, ho, Obj.not_cells_of_walk hw⟩⟩)) (fun pre x vs W1 h1 h2 h3 => (hY pre x vs W1 h1 h2 h3).mono (fun e W' he => he.imp id (fun q => ⟨q.1, q.2.1⟩))) h0
end Herb
set_option linter.unusedSimpArgs false
set_option linter.unusedVariables false
namespace Herb
open Go Go.RowKit
variable {P : Program} {l n : Nat}

def isDefer2 (o : Oper) : Bool := match o.op with
  | .defer _ => true
  | _ => false
theorem isDefer2_no {o : Oper} (h : isDefer2 o = false) (c : Call) : o.op ≠ .defer c := fun e => by
  unfold isDefer2 at h
  rw [e] at h
  cases h
theorem oper_inRound {F : Fence} (hro : F.round = none) {o : Oper} {a : Act} {w : World} {K : Act → World → Prop} {Q : Exit → Act → World → Prop} (hnd : isDefer2 o = false) (h : o.wpIn F n P a w K Q) : o.wpIn (F.inRound l) n P a w K Q := by
  refine ⟨h.1, ?_⟩
  have h2 := h.2
  rw [Oper.semAt_eq _ _ _ (isDefer2_no hnd)] at h2 ⊢
  exact h2
theorem wpAnyIn_round {F : Fence} (hro : F.round = none) {md : Region.Mode} {ops : Array Oper} {Q : Exit → Act → World → Prop} (hnd : ops.all (fun o => !isDefer2 o) = true) :
    ∀ (fuel : Nat) (listed : Array Bool) (a : Act) (w : World), wpAnyIn F n P md ops Q fuel listed a w → wpAnyIn (F.inRound l) n P md ops Q fuel listed a w
  | 0, _, _, _, h => h
  | fuel + 1, listed, a, w, h => by
    refine ⟨h.1, fun i hi => ?_⟩
    have h1 := wpOpIn_mono (fun a w => wpAnyIn_round hro hnd fuel (listed.setIfInBounds i true) a w) (h.2 i hi)
    unfold wpOpIn at h1 ⊢
    cases ho : ops[i]? with
    | none =>
      simp only [ho] at h1 ⊢
      exact h1
    | some o =>
      simp only [ho] at h1 ⊢
      split
      · rename_i hw
        rw [if_pos hw] at h1
        have hd : isDefer2 o = false := by
          have := Array.all_eq_true.1 hnd
          obtain ⟨hlt, he⟩ := Array.getElem?_eq_some_iff.1 ho
          have h2 := this i hlt
          rw [he] at h2
          simpa using h2
        exact oper_inRound hro hd h1
      · rename_i hw
        rw [if_neg hw] at h1
        exact h1
end Herb
set_option linter.unusedSimpArgs false
set_option linter.unusedVariables false
namespace Herb
open Go Go.RowKit
structure Ft where
  k : ByteArray
  va : Nat
  se : Nat
  li : Nat
  ki : Nat
  v : ByteArray
def Ft.zero : Ft := ⟨⟨#[]⟩, 0, 0, 0, 0, ⟨#[]⟩⟩
def Ft.cells (f : Ft) : List Value := [.string f.k, .int .u32 (f.va : Int), .int .u64 (f.se : Int), .int .u64 (f.li : Int), .int .u8 (f.ki : Int), .string f.v]
abbrev Ft.val (f : Ft) : Value := .agg #[.string f.k, .int .u32 (f.va : Int), .int .u64 (f.se : Int), .int .u64 (f.li : Int), .int .u8 (f.ki : Int), .string f.v]
theorem Ft.val_inj {f g : Ft} (h : f.val = g.val) : f = g := by
  obtain ⟨a1, a2, a3, a4, a5, a6⟩ := f
  obtain ⟨b1, b2, b3, b4, b5, b6⟩ := g
  simp only [Ft.val, Value.agg.injEq, Array.mk.injEq, List.cons.injEq, Value.string.injEq, Value.int.injEq, true_and, and_true] at h
  obtain ⟨rfl, h2, h3, h4, h5, rfl⟩ := h
  obtain rfl : a2 = b2 := by omega
  obtain rfl : a3 = b3 := by omega
  obtain rfl : a4 = b4 := by omega
  obtain rfl : a5 = b5 := by omega
  rfl
def Ft.fit (f : Ft) : Prop := f.va < 4294967296 ∧ f.se < 18446744073709551616 ∧ f.li < 18446744073709551616 ∧ f.ki < 256
def ftC (fs : List Ft) : List Value := fs.flatMap Ft.cells
theorem ftC_length (fs : List Ft) : (ftC fs).length = fs.length * 6 := by
  unfold ftC
  induction fs with
  | nil => rfl
  | cons x l ih => rw [List.flatMap_cons, List.length_append, ih, List.length_cons]; simp [Ft.cells]; omega
theorem ftC_append (a b : List Ft) : ftC (a ++ b) = ftC a ++ ftC b := by unfold ftC; rw [List.flatMap_append]
theorem ftC_get : ∀ {fs : List Ft} {i : Nat} (h : i < fs.length) {j : Nat}, j < 6 → (ftC fs)[i * 6 + j]? = (fs[i]).cells[j]?
  | x :: l, 0, _, j, hj => by
    have e : ftC (x :: l) = x.cells ++ ftC l := rfl
    rw [e, List.getElem?_append_left (by simp [Ft.cells]; omega)]
    simp
  | x :: l, i + 1, h, j, hj => by
    have ih := ftC_get (fs := l) (i := i) (by simpa using h) hj
    have e : ftC (x :: l) = x.cells ++ ftC l := rfl
    have l3 : x.cells.length = 6 := rfl
    rw [e, List.getElem?_append_right (by omega), l3, show (i + 1) * 6 + j - 6 = i * 6 + j by omega]
    exact ih
theorem ftC_one (fs : List Ft) : ∀ u ∈ ftC fs, u.oneCell' = true := by
  intro u hu
  obtain ⟨c, _, h⟩ := List.mem_flatMap.1 hu
  simp only [Ft.cells, List.mem_cons, List.not_mem_nil, or_false] at h
  rcases h with rfl | rfl | rfl | rfl | rfl | rfl <;> rfl
/-- Facts that a slice holds. -/
def Fs (w : World) (A : Option Addr) (fs : List Ft) : Prop := Rd w 6 A fs.length (ftC fs)
theorem Fs.below {w w' : World} {A : Option Addr} {fs : List Ft} (h : Fs w A fs) (hb : Below w.heap.size w w') : Fs w' A fs := Rd.below h hb
theorem Fs.nil_ (w : World) (A : Option Addr) : Fs w A [] := Rd.nil_ w 6 A
theorem Fs.at_ {w : World} {A : Option Addr} {fs : List Ft} (h : Fs w A fs) {i : Nat} (hi : i < fs.length) : ∃ b off, A = some ⟨b, off, none⟩ ∧ b < w.heap.size ∧
    ∀ j (hj : j < fs.length), w.cell? ⟨b, off + j * 6, none⟩ = some (.string fs[j].k) ∧ w.cell? ⟨b, off + j * 6 + 1, none⟩ = some (.int .u32 (fs[j].va : Int)) ∧ w.cell? ⟨b, off + j * 6 + 2, none⟩ = some (.int .u64 (fs[j].se : Int)) ∧
      w.cell? ⟨b, off + j * 6 + 3, none⟩ = some (.int .u64 (fs[j].li : Int)) ∧ w.cell? ⟨b, off + j * 6 + 4, none⟩ = some (.int .u8 (fs[j].ki : Int)) ∧ w.cell? ⟨b, off + j * 6 + 5, none⟩ = some (.string fs[j].v) := by
  obtain ⟨b, off, e, hb, hc⟩ := Rd.at_ h hi
  refine ⟨b, off, e, hb, fun j hj => ?_⟩
  have h0 := hc (j * 6 + 0) _ (ftC_get hj (j := 0) (by omega))
  have h1 := hc (j * 6 + 1) _ (ftC_get hj (j := 1) (by omega))
  have h2 := hc (j * 6 + 2) _ (ftC_get hj (j := 2) (by omega))
  have h3 := hc (j * 6 + 3) _ (ftC_get hj (j := 3) (by omega))
  have h4 := hc (j * 6 + 4) _ (ftC_get hj (j := 4) (by omega))
  have h5 := hc (j * 6 + 5) _ (ftC_get hj (j := 5) (by omega))
  exact ⟨h0, h1, h2, h3, h4, h5⟩
/-- One fact as a row. -/
theorem Rd.ft (w : World) (t : TypeId) (f : Ft) : Rd (w.alloc (.cells #[.string f.k, .int .u32 (f.va : Int), .int .u64 (f.se : Int), .int .u64 (f.li : Int), .int .u8 (f.ki : Int), .string f.v] t)) 6 (some ⟨w.heap.size, 0, none⟩) 1 (ftC [f]) :=
  (Blk.new w t _).rd rfl (fun j u hu => by simpa [ftC, Ft.cells] using hu)
end Herb
