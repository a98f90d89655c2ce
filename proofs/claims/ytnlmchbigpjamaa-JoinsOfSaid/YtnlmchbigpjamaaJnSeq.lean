/- A range over a function whose iterator keeps state of its own: blocks that it makes ahead of the first round, and one block C that lay before. The caller's invariants abide what it does with these. -/
import Derived.Test.YtnlmchbigpjamaaKeep
import Derived.Test.YtnlmchbigpjamaaSeqF
import Derived.RangeFuncNested
import Derived.RangeFuncBox
import Derived.RangeFuncCalls
import Derived.RangeFuncLeaves
set_option linter.unusedSimpArgs false
set_option linter.unusedVariables false
namespace Herb
open Go Go.RowKit
variable {F : Fence} {n : Nat} {P : Program}

/-- What the iterator may turn: block C, and those from B on that were there when it first handed over. -/
def Sm (C B s : Nat) : Nat → Prop := fun k => k = C ∨ (B ≤ k ∧ k < s)
/-- What a round of the caller may turn: nothing below n0, nothing of the iterator's. -/
def Kn (n0 B s : Nat) : Nat → Prop := fun k => n0 ≤ k ∧ ¬ (B ≤ k ∧ k < s)
theorem Kn.mono {n0 B B' s : Nat} (h : B ≤ B') {k : Nat} (hk : Kn n0 B s k) : Kn n0 B' s k := ⟨hk.1, fun e => hk.2 ⟨by omega, e.2⟩⟩

def SeqM {α : Type} (F : Fence) (n : Nat) (P : Program) (g : Nat) (ba lb : Array Value) (Enc : α → Array Value → World → Prop) (C : Nat) (Pr : World → Prop) (xs : List α) (w0 : World) : Prop :=
  ∀ (l : Nat) (J Jx : Nat → List α → World → Prop) (W : World), l < W.heap.size → KeepBut (fun k => k = C ∨ w0.heap.size ≤ k) w0 W → Pr W →
    (∀ s pre X Y, J s pre X → KeepBut (Sm C W.heap.size s) X Y → J s pre Y) → (∀ s pre X Y, Jx s pre X → KeepBut (Sm C W.heap.size s) X Y → Jx s pre Y) →
    (∀ s pre x vs W1, W.heap.size ≤ s → J s pre W1 → pre ++ [x] <+: xs → Enc x vs W1 → YieldAt F (n - 1) P l vs W1 fun e W' =>
      (e = .returned (.bool true) ∧ J s (pre ++ [x]) W' ∧ KeepBut (Kn w0.heap.size W.heap.size s) W1 W') ∨ (e = .returned (.bool false) ∧ Jx s (pre ++ [x]) W' ∧ KeepBut (Kn w0.heap.size W.heap.size s) W1 W')) →
    (∀ s W2, W.heap.size ≤ s → s ≤ W2.heap.size → KeepBut (fun k => k = C) W W2 → J s [] W2) →
    CallsIn F n P g (ba ++ #[.func (.yield l) #[] #[]] ++ lb) W fun e W' => (∃ v, e = .returned v) ∧ Pr W' ∧ ((∃ s, J s xs W') ∨ (∃ s pre, pre <+: xs ∧ Jx s pre W'))

/-- What a body owes. -/
def ownPostM {α : Type} (S : Nat → Prop) (I : List α → World → Prop) (Ix : Code → List α → World → Prop) (xs : List α) (W : World) : Exit → Act → World → Prop
  | .normal, _, W' => KeepBut S W W' ∧ I xs W'
  | .ret, _, W' => KeepBut S W W' ∧ Ix .ret xs W'
  | .exit id, _, W' => KeepBut S W W' ∧ Ix (.exit id) xs W'
  | .goto t, _, W' => KeepBut S W W' ∧ Ix (.goto t) xs W'
  | .panic _, _, _ => False
  | .outgrown, _, _ => False

theorem keep_putObj {S : Nat → Prop} {W : World} {l : Nat} (o : Obj) (hl : S l) : KeepBut S W (W.putObj l o) :=
  ⟨rfl, rfl, rfl, by simp, fun k hk hn => World.putObj_heap_other (fun e => hn (e ▸ hl))⟩

theorem wpIn_range_M {α : Type} {g : Operand} {ps : Array Tmp} {assign body : Code} {Q : Exit → Act → World → Prop} {a : Act} {w : World}
    (hro : F.round = none) (h1 : 1 ≤ n) {gf : Nat} {ba lb : Array Value} (hg : a.eval g = .func (.func gf) ba lb) (hFg : F.fn gf) (eg : ∀ args w, (callFunc gf args).run P w = .ok (.enter gf args) w)
    {Enc : α → Array Value → World → Prop} {C : Nat} {Pr : World → Prop} {ls : List α} {w0 : World} (hseq : SeqM F (n - 1) P gf ba lb Enc C Pr ls w0)
    (hb0 : KeepBut (fun k => k = C ∨ w0.heap.size ≤ k) w0 w) (hC : C < w.heap.size) (hp0 : Pr w) (hPr : ∀ X Y, Pr X → KeepBut (fun k => k ≠ C) X Y → Pr Y) (hps : ∀ x vs W, Enc x vs W → vs.size = ps.size) (hEnc : ∀ x vs X Y, Enc x vs X → KeepBut (fun k => k = w.heap.size + 1) X Y → Enc x vs Y)
    (I : Nat → List α → World → Prop) (Ix : Code → Nat → List α → World → Prop) (hI : ∀ s pre X Y, w.heap.size + 2 ≤ s → I s pre X → KeepBut (Sm C w.heap.size s) X Y → I s pre Y) (hIx : ∀ c s pre X Y, w.heap.size + 2 ≤ s → Ix c s pre X → KeepBut (Sm C w.heap.size s) X Y → Ix c s pre Y)
    (h0 : ∀ s W2, w.heap.size + 2 ≤ s → s ≤ W2.heap.size → KeepBut (fun k => k = C) w W2 → I s [] W2) (Ax : Array Value → Act → World → Prop) (hAx : ∀ vs a' X Y, Ax vs a' X → KeepBut (fun k => k = w.heap.size + 1) X Y → Ax vs a' Y)
    (hassign : ∀ (l s : Nat) (pre : List α) (x : α) (vs : Array Value) (W : World) (K : Act → World → Prop), w.heap.size + 2 ≤ s → s ≤ W.heap.size → I s pre W → Enc x vs W → (∀ a' W', KeepBut (Kn w0.heap.size w.heap.size s) W W' → I s pre W' → Enc x vs W' → Ax vs a' W' → K a' W') →
      assign.wpIn (F.inRound l) (n - 1 - 1) P (Exit.then K (fun _ _ _ => False)) { tmps := (ps.zip vs).foldl (fun t (p, v) => t.setIfInBounds p v) a.tmps, defers := [] } W)
    (hbody : ∀ (l s : Nat) (pre : List α) (x : α) (vs : Array Value) (a' : Act) (W : World), w.heap.size + 2 ≤ s → s ≤ W.heap.size → I s pre W → pre ++ [x] <+: ls → Enc x vs W → Ax vs a' W → body.wpIn (F.inRound l) (n - 1 - 1) P (ownPostM (Kn w0.heap.size w.heap.size s) (I s) (fun c => Ix c s) (pre ++ [x]) W) a' W)
    (hdone : ∀ (D s : Nat) (W : World), w.heap.size ≤ D → Pr W → I s ls W → W.heap[D]? = some (.deferred (some [])) → Q .normal { a with defers := { target := .collected D, args := #[] } :: a.defers } W)
    (hstop : ∀ (D s : Nat) (c : Code) (pre : List α) (W : World), w.heap.size ≤ D → Pr W → pre <+: ls → Ix c s pre W → W.heap[D]? = some (.deferred (some [])) → c.wpIn F n P Q { a with defers := { target := .collected D, args := #[] } :: a.defers } W) :
    (Code.rangeFunc g ps assign body).wpIn F n P Q a w := by
  refine wpIn_rangeFunc ?_
  intro fn hfn
  rw [hro]
  obtain ⟨rec, hrec⟩ : ∃ rec : LoopState → Option Code → Loop, rec = fun st pe => { state := st, pending := pe, fn, tmps := a.tmps, params := ps, assign, body, defers := w.heap.size } := ⟨_, rfl⟩
  obtain ⟨W1, hW1⟩ : ∃ W1, (w.alloc (.deferred (some []))).alloc (.loop (rec .ready none)) = W1 := ⟨_, rfl⟩
  have hL1 : W1.heap[w.heap.size + 1]? = some (.loop (rec .ready none)) := by
    rw [← hW1]; have := World.alloc_heap_new (w.alloc (.deferred (some []))) (.loop (rec .ready none)); rwa [World.size_alloc] at this
  have hK1 : W1.heap[w.heap.size]? = some (.deferred (some [])) := by
    rw [← hW1]; exact (Below.heap_alloc _ _ _ (by simp)).trans (World.alloc_heap_new w _)
  have hw1 : ∀ S, KeepBut S w W1 := fun S => by rw [← hW1]; exact ((KeepBut.refl w).alloc _).alloc _
  have hb1 : KeepBut (fun k => k = C ∨ w0.heap.size ≤ k) w0 W1 := hb0.trans (hw1 _)
  refine ⟨w.heap.size + 1, [{ target := .collected w.heap.size, args := #[] }], W1, { target := .fn (.func gf) lb, args := ba ++ #[.func (.yield (w.heap.size + 1)) #[] #[]] }, W1, gf,
    ba ++ #[.func (.yield (w.heap.size + 1)) #[] #[]] ++ lb, W1, ?_, ?_, ?_, ?_, fun _ => h1, ?_⟩
  · rw [← hW1, hrec]; exact run_enterLoop_outer _ _ _ _ _
  · simp only [resolve, hg]
    simp [go_sem]
  · intro f' hf'; simp [Target.leads] at hf'; subst hf'; exact hFg
  · simp [invoke, go_sem, eg]
  · have hsz1 : W1.heap.size = w.heap.size + 2 := by rw [← hW1]; simp
    have hsm : ∀ {s : Nat} {X Y : World}, KeepBut (Sm C W1.heap.size s) X Y → KeepBut (Sm C w.heap.size s) X Y := fun h => h.weak (fun k _ e => e.imp id (fun q => ⟨by omega, q.2⟩))
    have hst : ∀ {s : Nat} {X Y : World} {k : Nat} {o : Obj}, KeepBut (Sm C W1.heap.size s) X Y → w.heap.size ≤ k → k < W1.heap.size → X.heap[k]? = some o → Y.heap[k]? = some o :=
      fun {s X Y k o} hk h2 h3 ho => (hk.block k (Array.getElem?_eq_some_iff.1 ho).1 (fun e => by rcases e with e | e <;> omega)).trans ho
    refine (hseq (w.heap.size + 1)
      (fun s pre W => W1.heap.size ≤ s ∧ s ≤ W.heap.size ∧ I s pre W ∧ W.heap[w.heap.size + 1]? = some (.loop (rec .ready none)) ∧ W.heap[w.heap.size]? = some (.deferred (some [])))
      (fun s pre W => W1.heap.size ≤ s ∧ ∃ c, Ix c s pre W ∧ W.heap[w.heap.size + 1]? = some (.loop (rec .done (some c))) ∧ W.heap[w.heap.size]? = some (.deferred (some [])))
      W1 (by rw [hsz1]; omega) hb1 (hPr _ _ hp0 (hw1 _))
      (fun s pre X Y hs hk => ⟨hs.1, Nat.le_trans hs.2.1 hk.size, hI s pre X Y (by have := hs.1; omega) hs.2.2.1 (hsm hk), hst hk (by omega) (by omega) hs.2.2.2.1, hst hk (by omega) (by omega) hs.2.2.2.2⟩)
      (fun s pre X Y hs hk => by
        obtain ⟨h2, c, hc, hl, hk'⟩ := hs
        exact ⟨h2, c, hIx c s pre X Y (by omega) hc (hsm hk), hst hk (by omega) (by omega) hl, hst hk (by omega) (by omega) hk'⟩)
      ?_ (fun s W2 h2 h3 h4 => ⟨h2, h3, h0 s W2 (by omega) h3 ((hw1 _).trans h4), (h4.block _ (by omega) (by omega)).trans hL1, (h4.block _ (by omega) (by omega)).trans hK1⟩)).mono ?_
    · rintro s pre x vs W hs2 ⟨_, hsW, hi, hl, hk⟩ hlen he
      have hs3 : w.heap.size + 2 ≤ s := by omega
      have hlt : w.heap.size + 1 < W.heap.size := (Array.getElem?_eq_some_iff.1 hl).1
      have hy := run_yield (P := P) (args := vs) hl (by rw [hrec]; exact hps x vs W he)
      rw [hrec] at hy
      refine ⟨fn, _, assign, body, hy, roundIn_of_wpIn hfn (hassign _ s pre x vs W _ hs3 hsW hi he (fun a' W' hkf hi' he' hax => ?_))⟩
      have hrecs : ∀ {X Y : World} {k : Nat} {o : Obj}, KeepBut (Kn w0.heap.size w.heap.size s) X Y → w.heap.size ≤ k → k < w.heap.size + 2 → X.heap[k]? = some o → Y.heap[k]? = some o :=
        fun {X Y k o} h h2 h3 ho => (h.block k (Array.getElem?_eq_some_iff.1 ho).1 (fun e => e.2 ⟨by omega, by omega⟩)).trans ho
      have hl' := hrecs hkf (by omega) (by omega) hl
      have hk' := hrecs hkf (by omega) (by omega) hk
      have hlt' : w.heap.size + 1 < W'.heap.size := (Array.getElem?_eq_some_iff.1 hl').1
      refine ⟨_, run_beginRound hl' (by rw [hrec]), ?_⟩
      clear hi he hl hk hlt hy
      have hl2 : (W'.putObj (w.heap.size + 1) (.loop { rec .ready none with state := .busy })).heap[w.heap.size + 1]? = some (.loop { rec .ready none with state := .busy }) := World.putObj_heap_same hlt'
      have hk2 : (W'.putObj (w.heap.size + 1) (.loop { rec .ready none with state := .busy })).heap[w.heap.size]? = some (.deferred (some [])) := (World.putObj_heap_other (by omega)).trans hk'
      have hIp : ∀ {X : World} (o : Obj) {p : List α}, I s p X → I s p (X.putObj (w.heap.size + 1) o) := fun {X} o {p} hx => hI s _ _ _ hs3 hx (keep_putObj o (.inr ⟨by omega, by omega⟩))
      have hIxp : ∀ {X : World} (o : Obj) {p : List α} {c : Code}, Ix c s p X → Ix c s p (X.putObj (w.heap.size + 1) o) := fun {X} o {p c} hx => hIx _ s _ _ _ hs3 hx (keep_putObj o (.inr ⟨by omega, by omega⟩))
      refine wpIn_mono (hbody _ s pre x vs a' _ hs3 (by simp; exact Nat.le_trans hsW hkf.size) (hIp _ hi') hlen (hEnc x vs _ _ he' (keep_putObj _ rfl)) (hAx vs a' _ _ hax (keep_putObj _ rfl))) ?_
      have hKW : ∀ {W3 : World} (o : Obj), KeepBut (Kn w0.heap.size w.heap.size s) (W'.putObj (w.heap.size + 1) (.loop { rec .ready none with state := .busy })) W3 → KeepBut (Kn w0.heap.size W1.heap.size s) W (W3.putObj (w.heap.size + 1) o) := fun {W3} o h3 => by
        have ek : Kn w0.heap.size W1.heap.size s (w.heap.size + 1) := ⟨by have := hb0.size; omega, fun e => by omega⟩
        have em : ∀ k, Kn w0.heap.size w.heap.size s k → Kn w0.heap.size W1.heap.size s k := fun k e => Kn.mono (by omega) e
        exact (hkf.weak (fun k _ e => em k e)).trans ((keep_putObj _ ek).trans ((h3.weak (fun k _ e => em k e)).trans (keep_putObj _ ek)))
      have fin : ∀ (jump : Option Code) (W3 : World), KeepBut (Kn w0.heap.size w.heap.size s) (W'.putObj (w.heap.size + 1) (.loop { rec .ready none with state := .busy })) W3 →
          (Instr.endRound (w.heap.size + 1) jump).run P W3 = .ok (.bool jump.isNone) (W3.putObj (w.heap.size + 1) (.loop (rec (if jump.isNone then .ready else .done) jump))) ∧
          (W3.putObj (w.heap.size + 1) (.loop (rec (if jump.isNone then .ready else .done) jump))).heap[w.heap.size + 1]? = some (.loop (rec (if jump.isNone then .ready else .done) jump)) ∧
          (W3.putObj (w.heap.size + 1) (.loop (rec (if jump.isNone then .ready else .done) jump))).heap[w.heap.size]? = some (.deferred (some [])) ∧ s ≤ (W3.putObj (w.heap.size + 1) (.loop (rec (if jump.isNone then .ready else .done) jump))).heap.size := fun jump W3 hk3 => by
        have hl3 := hrecs hk3 (by omega) (by omega) hl2
        have := run_endRound (P := P) jump hl3
        rw [hrec] at this ⊢
        refine ⟨this, World.putObj_heap_same (Array.getElem?_eq_some_iff.1 hl3).1, (World.putObj_heap_other (by omega)).trans (hrecs hk3 (Nat.le_refl _) (by omega) hk2), ?_⟩
        have h5 := hk3.size
        have h6 := hkf.size
        simp at h5 ⊢
        omega
      rintro e a3 W3 hp
      cases e with
      | normal =>
        obtain ⟨hk3, hi3⟩ := hp
        obtain ⟨hr, hl4, hk4, hs4⟩ := fin none W3 hk3
        exact ⟨_, _, hr, .inl ⟨rfl, ⟨hs2, hs4, hIp _ hi3, hl4, hk4⟩, hKW _ hk3⟩⟩
      | ret =>
        obtain ⟨hk3, hi3⟩ := hp
        obtain ⟨hr, hl4, hk4, hs4⟩ := fin (some .ret) W3 hk3
        exact ⟨_, _, hr, .inr ⟨rfl, ⟨hs2, .ret, hIxp _ hi3, hl4, hk4⟩, hKW _ hk3⟩⟩
      | exit id =>
        obtain ⟨hk3, hi3⟩ := hp
        obtain ⟨hr, hl4, hk4, hs4⟩ := fin (some (.exit id)) W3 hk3
        exact ⟨_, _, hr, .inr ⟨rfl, ⟨hs2, .exit id, hIxp _ hi3, hl4, hk4⟩, hKW _ hk3⟩⟩
      | goto t =>
        obtain ⟨hk3, hi3⟩ := hp
        obtain ⟨hr, hl4, hk4, hs4⟩ := fin (some (.goto t)) W3 hk3
        exact ⟨_, _, hr, .inr ⟨rfl, ⟨hs2, .goto t, hIxp _ hi3, hl4, hk4⟩, hKW _ hk3⟩⟩
      | panic ch => exact hp.elim
      | outgrown => exact hp.elim
    · rintro e W2 ⟨⟨v, rfl⟩, hpr, (⟨s, hs, hsW, hi, hl, hk⟩ | ⟨s, pre, hSp, hs, c, hi, hl, hk⟩)⟩
      · exact ⟨none, _, by have := run_endLoop (P := P) hl (by rw [hrec]; simp); rw [hrec] at this; exact this, hdone _ s _ (Nat.le_refl _) (hPr _ _ hpr (keep_putObj _ (by omega))) (hI s _ _ _ (by omega) hi (keep_putObj _ (.inr ⟨by omega, by omega⟩))) ((World.putObj_heap_other (by omega)).trans hk)⟩
      · exact ⟨some c, _, by have := run_endLoop (P := P) hl (by rw [hrec]; simp); rw [hrec] at this; exact this, hstop _ s c pre _ (Nat.le_refl _) (hPr _ _ hpr (keep_putObj _ (by omega))) hSp (hIx c s _ _ _ (by omega) hi (keep_putObj _ (.inr ⟨by omega, by omega⟩))) ((World.putObj_heap_other (by omega)).trans hk)⟩
end Herb
