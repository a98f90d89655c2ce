/- Walk of the book's Apart at bytes: sheets in blocks of their own. -/
import Derived.Test.YtidnhcningkcaaaDoorBookB
set_option linter.unusedSimpArgs false
set_option linter.unusedVariables false
namespace Go.Proofs.YtidnhcningkcaaaDoor
open Go Go.RowKit Herb

theorem paint_0 (w : World) (A : Option Addr) (v : UInt8) : Calls Tryd.prog 63 #[.agg #[.slice A 0 0, .int .u8 (v.toNat : Int)]] w fun e w' => e = .returned (.tuple #[]) ∧ Below w.heap.size w w' := by
  have k0 := (Below.refl w.heap.size w).alloc (Nat.le_refl _) (.cells #[.slice A 0 0, .int .u8 (v.toNat : Int)] 74)
  go_enter Tryd.func63, Tryd.ntmps63
  go_wp2
  go_loop [2] (fun i => i = .int .i64 0) (fun _ => 0)
  case atStart => rfl
  case round =>
    subst hrel
    go_wp2
    go_end0
    exact ⟨rfl, k0⟩
theorem spill_0 (w : World) (A : Option Addr) (v : UInt8) : Calls Tryd.prog 64 #[.agg #[.slice A 0 0, .int .u8 (v.toNat : Int)]] w fun e w' => e = .returned (.tuple #[]) ∧ Below w.heap.size w w' := by
  have k0 := (Below.refl w.heap.size w).alloc (Nat.le_refl _) (.cells #[.slice A 0 0, .int .u8 (v.toNat : Int)] 74)
  go_enter Tryd.func64, Tryd.ntmps64
  go_wp2
  go_loop [3] (fun i => i = .int .i64 0) (fun _ => 0)
  case atStart => rfl
  case round =>
    subst hrel
    go_wp2
    go_end0
    exact ⟨rfl, k0⟩
theorem clean_0 (w : World) (A : Option Addr) (v : UInt8) : Calls Tryd.prog 62 #[.agg #[.slice A 0 0, .int .u8 (v.toNat : Int)]] w fun e w' => e = .returned (.bool true) ∧ Below w.heap.size w w' := by
  have k0 := (Below.refl w.heap.size w).alloc (Nat.le_refl _) (.cells #[.slice A 0 0, .int .u8 (v.toNat : Int)] 74)
  go_enter Tryd.func62, Tryd.ntmps62
  go_wp2
  go_loop [4] (fun i => i = .int .i64 0) (fun _ => 0)
  case atStart => rfl
  case round =>
    subst hrel
    go_wp2
    go_ret
    exact ⟨rfl, k0⟩

/-- A sheet of bytes, and its mark. -/
structure Sh where
  A : Option Addr
  n : Nat
  c : Nat
  m : UInt8
def Sh.v (q : Sh) : Value := sheetB q.A q.n q.c q.m.toNat
/-- The sheets lie in blocks of their own; the first f cells of each hold its mark. -/
def ShSt (w : World) (Q : List Sh) (f : Nat → Nat) : Prop :=
  ∀ j (h : j < Q.length), (Q[j].n ≤ Q[j].c) ∧ Q[j].c ≤ 9223372036854775807 ∧ (Q[j].c = 0 ∨ ∃ g cs, Q[j].A = some ⟨g, 0, none⟩ ∧ Blk w g 5 cs ∧ Q[j].c ≤ cs.size ∧ f j ≤ Q[j].c ∧ ∀ x, x < f j → cs[x]? = some (.int .u8 (Q[j].m.toNat : Int)))
def ShDis (Q : List Sh) : Prop := ∀ i j (hi : i < Q.length) (hj : j < Q.length), i ≠ j → ∀ g g', Q[i].c ≠ 0 → Q[j].c ≠ 0 → Q[i].A = some ⟨g, 0, none⟩ → Q[j].A = some ⟨g', 0, none⟩ → g ≠ g'
def ShUp (B : Nat) (Q : List Sh) : Prop := ∀ i (hi : i < Q.length), Q[i].c ≠ 0 → ∀ g, Q[i].A = some ⟨g, 0, none⟩ → B ≤ g

theorem BookAt.below {w w' : World} {base p : Nat} {S : List Value} (h : BookAt w base p S) (hb : Below w.heap.size w w') : BookAt w' base p S := by
  obtain ⟨A, c, h1, h2⟩ := h
  exact ⟨A, c, h1.below hb h1.lt, h2.kept (row := none) ⟨hb.os, hb.tape, hb.output, hb.size, fun k hk _ => hb.block k hk⟩ (by cases (Value.slice A S.length c).ownBlock <;> simp)⟩
theorem BookAt.keepG {w w' : World} {base p g : Nat} {S : List Value} {cs : Array Value} (h : BookAt w base p S) (hg : Blk w g 5 cs) (hk : KeepG g w w') : BookAt w' base p S := by
  obtain ⟨A, c, h1, h2⟩ := h
  exact ⟨A, c, hk.blk h1 (h1.ne_ hg (by decide)), h2.kept (row := some g) ⟨hk.os, hk.tape, hk.output, hk.size, fun k hk2 hn => hk.block k hk2 (fun e => hn (by rw [e]))⟩ (.inr (fun e => own_neB h2 hg (by decide) e.symm))⟩

theorem ShSt.congr {w : World} {Q : List Sh} {f f' : Nat → Nat} (h : ShSt w Q f) (e : ∀ j, j < Q.length → f j = f' j) : ShSt w Q f' := by
  intro j hj
  obtain ⟨h1, h2, h3⟩ := h j hj
  rw [e j hj] at h3
  exact ⟨h1, h2, h3⟩
theorem ShSt.below {w w' : World} {Q : List Sh} {f : Nat → Nat} (h : ShSt w Q f) (hb : Below w.heap.size w w') : ShSt w' Q f := by
  intro j hj
  obtain ⟨h1, h2, h3⟩ := h j hj
  refine ⟨h1, h2, h3.imp id ?_⟩
  rintro ⟨g, cs, e, hg, rest⟩
  exact ⟨g, cs, e, hg.below hb hg.lt, rest⟩
theorem ShSt.step {w w' : World} {Q : List Sh} {f : Nat → Nat} (h : ShSt w Q f) (hdis : ShDis Q) {i F g : Nat} (hi : i < Q.length) (hc : Q[i].c ≠ 0) (hA : Q[i].A = some ⟨g, 0, none⟩) {cs' : Array Value} (hg : Blk w' g 5 cs') (hs : Q[i].c ≤ cs'.size) (hF : F ≤ Q[i].c)
    (hv : ∀ x, x < F → cs'[x]? = some (.int .u8 (Q[i].m.toNat : Int))) (hk : KeepG g w w') : ShSt w' Q (fun j => if j = i then F else f j) := by
  intro j hj
  obtain ⟨h1, h2, h3⟩ := h j hj
  refine ⟨h1, h2, ?_⟩
  by_cases e : j = i
  · subst e
    exact .inr ⟨g, cs', hA, hg, hs, by simpa using hF, by simpa using hv⟩
  · rcases h3 with h3 | ⟨g', cs, e1, e2, e3, e4, e5⟩
    · exact .inl h3
    · by_cases hc0 : Q[j].c = 0
      · exact .inl hc0
      · exact .inr ⟨g', cs, e1, hk.blk e2 (hdis j i hj hi e g' g hc0 hc e1 hA), e3, by simpa [e] using e4, by simpa [e] using e5⟩
theorem ShSt.step0 {w w' : World} {Q : List Sh} {f : Nat → Nat} (h : ShSt w Q f) {i F : Nat} (hi : i < Q.length) (hc : Q[i].c = 0) (hb : Below w.heap.size w w') : ShSt w' Q (fun j => if j = i then F else f j) := by
  intro j hj
  obtain ⟨h1, h2, h3⟩ := h.below hb j hj
  refine ⟨h1, h2, ?_⟩
  by_cases e : j = i
  · subst e; exact .inl hc
  · simpa [e] using h3

theorem paint_st (w : World) (Q : List Sh) (f : Nat → Nat) (hst : ShSt w Q f) (hdis : ShDis Q) (i : Nat) (hi : i < Q.length) (A : Option Addr) (n c : Nat) (m : UInt8) (hq : Q[i] = ⟨A, n, c, m⟩) (base p B : Nat) (S : List Value) (hb : BookAt w base p S) (hB : B ≤ w.heap.size) (hup : ShUp B Q) :
    Calls Tryd.prog 63 #[.agg #[.slice A n c, .int .u8 (m.toNat : Int)]] w fun e w' => e = .returned (.tuple #[]) ∧ ShSt w' Q (fun j => if j = i then n else f j) ∧ BookAt w' base p S ∧ Below B w w' := by
  obtain ⟨h1, h2, h3⟩ := hst i hi
  have hu := hup i hi
  have hs := fun {w' : World} {F g : Nat} => ShSt.step (w' := w') hst hdis (F := F) (g := g) hi
  rw [hq] at h1 h2 h3 hu hs
  simp only at h1 h2 h3 hu hs
  by_cases hc : c = 0
  · subst hc
    obtain rfl : n = 0 := by omega
    refine (paint_0 w A m).mono ?_
    rintro _ w' ⟨rfl, k0⟩
    exact ⟨rfl, hst.step0 hi (by rw [hq]) k0, hb.below k0, k0.mono hB⟩
  · rcases h3 with h3 | ⟨g, cs, rfl, hg, h5, _, _⟩
    · exact absurd h3 hc
    · refine (paint_b w g n c m cs h1 h5 h2 hg).mono ?_
      rintro _ w' ⟨rfl, k1, k2⟩
      exact ⟨rfl, hs hc rfl k1 (by rw [fr_size _ _ _ _ (by omega)]; exact h5) h1 (fun x hx => by rw [fr_get _ _ _ _ _ (by omega) (by omega), if_pos ⟨by omega, hx⟩]) k2, hb.keepG hg k2, k2.below (Below.refl _ _) hB (hu hc g rfl)⟩
theorem spill_st (w : World) (Q : List Sh) (f : Nat → Nat) (hst : ShSt w Q f) (hdis : ShDis Q) (i : Nat) (hi : i < Q.length) (A : Option Addr) (n c : Nat) (m : UInt8) (hq : Q[i] = ⟨A, n, c, m⟩) (hf : f i = n) (base p B : Nat) (S : List Value) (hb : BookAt w base p S) (hB : B ≤ w.heap.size) (hup : ShUp B Q) :
    Calls Tryd.prog 64 #[.agg #[.slice A n c, .int .u8 (m.toNat : Int)]] w fun e w' => e = .returned (.tuple #[]) ∧ ShSt w' Q (fun j => if j = i then c else f j) ∧ BookAt w' base p S ∧ Below B w w' := by
  obtain ⟨h1, h2, h3⟩ := hst i hi
  have hu := hup i hi
  have hs := fun {w' : World} {F g : Nat} => ShSt.step (w' := w') hst hdis (F := F) (g := g) hi
  rw [hf] at h3
  rw [hq] at h1 h2 h3 hu hs
  simp only at h1 h2 h3 hu hs
  by_cases hc : c = 0
  · subst hc
    obtain rfl : n = 0 := by omega
    refine (spill_0 w A m).mono ?_
    rintro _ w' ⟨rfl, k0⟩
    exact ⟨rfl, hst.step0 hi (by rw [hq]) k0, hb.below k0, k0.mono hB⟩
  · rcases h3 with h3 | ⟨g, cs, rfl, hg, h5, _, h7⟩
    · exact absurd h3 hc
    · refine (spill_b w g n c m cs h1 h5 h2 hg).mono ?_
      rintro _ w' ⟨rfl, k1, k2⟩
      refine ⟨rfl, hs hc rfl k1 (by rw [fr_size _ _ _ _ (by omega)]; exact h5) (Nat.le_refl _) (fun x hx => ?_) k2, hb.keepG hg k2, k2.below (Below.refl _ _) hB (hu hc g rfl)⟩
      rw [fr_get _ _ _ _ _ (by omega) (by omega)]
      by_cases e : n ≤ x
      · rw [if_pos ⟨e, hx⟩]
      · rw [if_neg (by omega)]
        exact h7 x (by omega)
theorem clean_st (w : World) (Q : List Sh) (f : Nat → Nat) (hst : ShSt w Q f) (i : Nat) (hi : i < Q.length) (A : Option Addr) (n c : Nat) (m : UInt8) (hq : Q[i] = ⟨A, n, c, m⟩) (hf : f i = c) :
    Calls Tryd.prog 62 #[.agg #[.slice A n c, .int .u8 (m.toNat : Int)]] w fun e w' => e = .returned (.bool true) ∧ Below w.heap.size w w' := by
  obtain ⟨h1, h2, h3⟩ := hst i hi
  rw [hf] at h3
  rw [hq] at h1 h2 h3
  simp only at h1 h2 h3
  by_cases hc : c = 0
  · subst hc
    obtain rfl : n = 0 := by omega
    exact clean_0 w A m
  · rcases h3 with h3 | ⟨g, cs, rfl, hg, h5, _, h7⟩
    · exact absurd h3 hc
    · exact clean_b w g n c m cs h1 h2 hg h7

/-- How much of each sheet holds its mark: behind i sheets of a round. -/
def shF (Q : List Sh) (a b : Sh → Nat) (i j : Nat) : Nat := match Q[j]? with | some q => if j < i then b q else a q | none => 0
theorem shF_step (Q : List Sh) (a b : Sh → Nat) (i j : Nat) (hj : j < Q.length) (hi : i < Q.length) : (if j = i then b Q[i] else shF Q a b i j) = shF Q a b (i + 1) j := by
  unfold shF
  rw [List.getElem?_eq_getElem hj]
  by_cases e : j = i
  · subst e; simp
  · simp only [if_neg e]
    by_cases e2 : j < i
    · rw [if_pos e2, if_pos (by omega)]
    · rw [if_neg e2, if_neg (by omega)]
theorem shF_at (Q : List Sh) (a b : Sh → Nat) (i : Nat) (hi : i < Q.length) : shF Q a b i i = a Q[i] := by
  unfold shF
  rw [List.getElem?_eq_getElem hi]
  simp
theorem shF_end (Q : List Sh) (a b d : Sh → Nat) (i j : Nat) (hj : j < Q.length) (hi : Q.length ≤ i) : shF Q a b i j = shF Q b d 0 j := by
  unfold shF
  rw [List.getElem?_eq_getElem hj]
  simp only
  rw [if_pos (by omega), if_neg (by omega)]

set_option maxRecDepth 100000 in
set_option maxHeartbeats 3200000 in
theorem apart_any (w : World) (base p B : Nat) (Q : List Sh) (hb : BookAt w base p (Q.map Sh.v)) (hB : B ≤ w.heap.size) (hQ : Q.length ≤ 98) (hst : ShSt w Q (fun _ => 0)) (hdis : ShDis Q) (hup : ShUp B Q) :
    Calls Tryd.prog 25 #[.pointer (some ⟨p, 0, none⟩)] w fun e w' => e = .returned (.bool true) ∧ Below B w w' := by
  obtain ⟨k, hk⟩ : ∃ k, Q.length = k := ⟨_, rfl⟩
  have hst0 : ShSt w Q (shF Q (fun _ => 0) Sh.n 0) := hst.congr (fun j hj => by unfold shF; rw [List.getElem?_eq_getElem hj]; simp)
  have hopen : ∀ W, BookAt W base p (Q.map Sh.v) → ∃ A c, W.cell? ⟨p, 0, none⟩ = some (.slice A k c) ∧ Rd W 1 A k (Q.map Sh.v) := by
    intro W h
    obtain ⟨A, c, h1, h2⟩ := h
    rw [List.length_map, hk] at h1 h2
    exact ⟨A, c, h1.cell 0, Rd.of_own h2⟩
  have hrow : ∀ i (h : i < Q.length), ∀ A n c m, Q[i] = ⟨A, n, c, m⟩ → (Q.map Sh.v)[i]? = some (.iface 74 (.agg #[.slice A n c, .int .u8 (m.toNat : Int)])) := by
    intro i h A n c m hq
    rw [List.getElem?_map, List.getElem?_eq_getElem h, hq]
    rfl
  rw [hk] at hQ
  replace hk := Lib.hid hk
  replace hopen := Lib.hid hopen
  replace hrow := Lib.hid hrow
  obtain ⟨A0, cb0, c0, _⟩ := hopen.out w hb
  have d1 : decide ((250 : Int) < (k : Int)) = false := decide_eq_false (by omega)
  go_enter Tryd.func25, Tryd.ntmps25
  go_wp2
  clear c0 d1 hst
  go_loopw [3] (fun i wr => ∃ i0 : Nat, i0 ≤ k ∧ i = .int .i64 (i0 : Int) ∧ BookAt wr base p (Q.map Sh.v) ∧ ShSt wr Q (shF Q (fun _ => 0) Sh.n i0) ∧ Below B w wr) (fun i _ => k - (intOf i).toNat)
  case atStart => exact ⟨0, by omega, rfl, hb, hst0, Below.refl _ _⟩
  case round =>
    skip
    obtain ⟨i0, hi, rfl, hbk, hs, hbel⟩ := hrel
    obtain ⟨Ab, cb, c0, hrd⟩ := hopen.out wr hbk
    have hBw : B ≤ wr.heap.size := Nat.le_trans hB hbel.size
    by_cases hlt : i0 < k
    · obtain ⟨b, off, rfl, _, hc⟩ := hrd.at_ hlt
      have hil : i0 < Q.length := by rw [hk.out]; exact hlt
      obtain ⟨q, hq⟩ : ∃ q, Q[i0] = q := ⟨_, rfl⟩
      obtain ⟨A, n, c, m⟩ := q
      have hci := hc i0 _ (hrow.out i0 hil A n c m hq)
      have pc := paint_st wr Q _ hs hdis i0 hil A n c m hq base p B _ hbk hBw hup
      replace pc := Lib.hid pc
      replace hq := Lib.hid hq
      clear hc hrd
      go_wp2_with fail
      refine pc.out.mono ?_
      clear c0 hci pc
      rintro _ w2 ⟨rfl, s2, k2, b2⟩
      have s3 := s2.congr (f' := shF Q (fun _ => 0) Sh.n (i0 + 1)) (fun j hj => by rw [← shF_step Q (fun _ => 0) Sh.n i0 j hj hil, hq.out])
      clear s2
      go_wp2
      go_roundw
      case rel => exact ⟨i0 + 1, by omega, by go_num, k2, s3, hbel.trans b2⟩
      case measure => simp [intOf]; omega
    · obtain rfl : k = i0 := by omega
      go_wp2
      have hs1 := hs.congr (f' := shF Q Sh.n Sh.c 0) (fun j hj => shF_end Q _ _ Sh.c k j hj (by rw [hk.out]; exact Nat.le_refl _))
      have hbk1 := hbk
      have hbel1 := hbel
      clear c0 hrd hs hbk hbel hBw
      obtain ⟨wo, hwo⟩ : ∃ wo : World, wo = wr := ⟨_, rfl⟩
      rw [← hwo] at hs1 hbk1 hbel1 ⊢
      clear hwo
      go_loopw [4] (fun i wr => ∃ i0 : Nat, i0 ≤ k ∧ i = .int .i64 (i0 : Int) ∧ BookAt wr base p (Q.map Sh.v) ∧ ShSt wr Q (shF Q Sh.n Sh.c i0) ∧ Below B w wr) (fun i _ => k - (intOf i).toNat)
      case atStart => exact ⟨0, by omega, rfl, hbk1, hs1, hbel1⟩
      case round =>
        clear hbk1 hs1 hbel1
        obtain ⟨i0, hi, rfl, hbk, hs, hbel⟩ := hrel
        obtain ⟨Ab, cb, c0, hrd⟩ := hopen.out wr hbk
        have hBw : B ≤ wr.heap.size := Nat.le_trans hB hbel.size
        by_cases hlt : i0 < k
        · obtain ⟨b, off, rfl, _, hc⟩ := hrd.at_ hlt
          have hil : i0 < Q.length := by rw [hk.out]; exact hlt
          obtain ⟨q, hq⟩ : ∃ q, Q[i0] = q := ⟨_, rfl⟩
          obtain ⟨A, n, c, m⟩ := q
          have hci := hc i0 _ (hrow.out i0 hil A n c m hq)
          have pc := spill_st wr Q _ hs hdis i0 hil A n c m hq (by rw [shF_at _ _ _ _ hil, hq]) base p B _ hbk hBw hup
          replace pc := Lib.hid pc
          replace hq := Lib.hid hq
          clear hc hrd
          go_wp2_with fail
          refine pc.out.mono ?_
          clear c0 hci pc
          rintro _ w2 ⟨rfl, s2, k2, b2⟩
          have s3 := s2.congr (f' := shF Q Sh.n Sh.c (i0 + 1)) (fun j hj => by rw [← shF_step Q Sh.n Sh.c i0 j hj hil, hq.out])
          clear s2
          go_wp2
          go_roundw
          case rel => exact ⟨i0 + 1, by omega, by go_num, k2, s3, hbel.trans b2⟩
          case measure => simp [intOf]; omega
        · obtain rfl : k = i0 := by omega
          go_wp2
          have hs1 := hs.congr (f' := shF Q Sh.c Sh.c 0) (fun j hj => shF_end Q _ _ Sh.c k j hj (by rw [hk.out]; exact Nat.le_refl _))
          have hbk1 := hbk
          have hbel1 := hbel
          clear c0 hrd hs hbk hbel hBw
          obtain ⟨wo, hwo⟩ : ∃ wo : World, wo = wr := ⟨_, rfl⟩
          rw [← hwo] at hs1 hbk1 hbel1 ⊢
          clear hwo
          go_loopw [5] (fun i wr => ∃ i0 : Nat, i0 ≤ k ∧ i = .int .i64 (i0 : Int) ∧ BookAt wr base p (Q.map Sh.v) ∧ ShSt wr Q (shF Q Sh.c Sh.c i0) ∧ Below B w wr) (fun i _ => k - (intOf i).toNat)
          case atStart => exact ⟨0, by omega, rfl, hbk1, hs1, hbel1⟩
          case round =>
            clear hbk1 hs1 hbel1
            obtain ⟨i0, hi, rfl, hbk, hs, hbel⟩ := hrel
            obtain ⟨Ab, cb, c0, hrd⟩ := hopen.out wr hbk
            have hBw : B ≤ wr.heap.size := Nat.le_trans hB hbel.size
            by_cases hlt : i0 < k
            · obtain ⟨b, off, rfl, _, hc⟩ := hrd.at_ hlt
              have hil : i0 < Q.length := by rw [hk.out]; exact hlt
              obtain ⟨q, hq⟩ : ∃ q, Q[i0] = q := ⟨_, rfl⟩
              obtain ⟨A, n, c, m⟩ := q
              have hci := hc i0 _ (hrow.out i0 hil A n c m hq)
              have pc := clean_st wr Q _ hs i0 hil A n c m hq (by rw [shF_at _ _ _ _ hil, hq])
              replace pc := Lib.hid pc
              replace hq := Lib.hid hq
              clear hc hrd
              go_wp2_with fail
              refine pc.out.mono ?_
              clear c0 hci pc
              rintro _ w2 ⟨rfl, b2⟩
              have s3 := (hs.below b2).congr (f' := shF Q Sh.c Sh.c (i0 + 1)) (fun j hj => by unfold shF; rw [List.getElem?_eq_getElem hj]; simp)
              have k2 := hbk.below b2
              have b3 := b2.mono hBw
              go_wp2
              go_roundw
              case rel => exact ⟨i0 + 1, by omega, by go_num, k2, s3, hbel.trans b3⟩
              case measure => simp [intOf]; omega
            · obtain rfl : k = i0 := by omega
              go_wp2
              go_ret
              exact ⟨rfl, hbel⟩
end Go.Proofs.YtidnhcningkcaaaDoor
