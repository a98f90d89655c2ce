/- Changes in memory; walks of ContainsFunc over them, and of ops.Check. -/
import Derived.Test.YtccbldlnfaiphaaDoorOpA
set_option linter.unusedSimpArgs false
set_option linter.unusedVariables false
namespace Herb.Cm
open Go Go.RowKit Herb
/-- A change's cells; a list's. -/
def Ch.cells (c : Ch) : List Value := [.string c.k, .int .u32 (c.va : Int), .int .u8 (c.ki : Int), .string c.v]
def chC (cs : List Ch) : List Value := cs.flatMap Ch.cells
theorem chC_length (cs : List Ch) : (chC cs).length = cs.length * 4 := by
  unfold chC
  induction cs with
  | nil => rfl
  | cons x l ih => rw [List.flatMap_cons, List.length_append, ih, List.length_cons]; simp [Ch.cells]; omega
theorem chC_append (a b : List Ch) : chC (a ++ b) = chC a ++ chC b := by unfold chC; rw [List.flatMap_append]
theorem chC_get : ∀ {cs : List Ch} {i : Nat} (h : i < cs.length) {j : Nat}, j < 4 → (chC cs)[i * 4 + j]? = (cs[i]).cells[j]?
  | x :: l, 0, _, j, hj => by
    have e : chC (x :: l) = x.cells ++ chC l := rfl
    rw [e, List.getElem?_append_left (by simp [Ch.cells]; omega)]
    simp
  | x :: l, i + 1, h, j, hj => by
    have ih := chC_get (cs := l) (i := i) (by simpa using h) hj
    have e : chC (x :: l) = x.cells ++ chC l := rfl
    have l3 : x.cells.length = 4 := rfl
    rw [e, List.getElem?_append_right (by omega), l3, show (i + 1) * 4 + j - 4 = i * 4 + j by omega]
    exact ih
theorem chC_one (cs : List Ch) : ∀ u ∈ chC cs, u.oneCell' = true := by
  intro u hu
  obtain ⟨c, _, h⟩ := List.mem_flatMap.1 hu
  simp only [Ch.cells, List.mem_cons, List.not_mem_nil, or_false] at h
  rcases h with rfl | rfl | rfl | rfl <;> rfl
/-- Changes that a slice holds. -/
def Cs (w : World) (A : Option Addr) (cs : List Ch) : Prop := Rd w 4 A cs.length (chC cs)
theorem Cs.below {w w' : World} {A : Option Addr} {cs : List Ch} (h : Cs w A cs) (hb : Below w.heap.size w w') : Cs w' A cs := Rd.below h hb
theorem Cs.nil_ (w : World) (A : Option Addr) : Cs w A [] := Rd.nil_ w 4 A
theorem Cs.at_ {w : World} {A : Option Addr} {cs : List Ch} (h : Cs w A cs) {i : Nat} (hi : i < cs.length) : ∃ b off, A = some ⟨b, off, none⟩ ∧ b < w.heap.size ∧
    ∀ j (hj : j < cs.length), w.cell? ⟨b, off + j * 4, none⟩ = some (.string cs[j].k) ∧ w.cell? ⟨b, off + j * 4 + 1, none⟩ = some (.int .u32 (cs[j].va : Int)) ∧ w.cell? ⟨b, off + j * 4 + 2, none⟩ = some (.int .u8 (cs[j].ki : Int)) ∧ w.cell? ⟨b, off + j * 4 + 3, none⟩ = some (.string cs[j].v) := by
  obtain ⟨b, off, e, hb, hc⟩ := Rd.at_ h hi
  refine ⟨b, off, e, hb, fun j hj => ?_⟩
  have h0 := hc (j * 4 + 0) _ (chC_get hj (j := 0) (by omega))
  have h1 := hc (j * 4 + 1) _ (chC_get hj (j := 1) (by omega))
  have h2 := hc (j * 4 + 2) _ (chC_get hj (j := 2) (by omega))
  have h3 := hc (j * 4 + 3) _ (chC_get hj (j := 3) (by omega))
  exact ⟨h0, h1, h2, h3⟩
/-- The table of sets. -/
def setOf (k : Nat) : Int := match k with | 0 => 4 | 1 => 1 | 2 => 0 | 3 => 5 | _ => 2
end Herb.Cm
namespace Go.Proofs.YtccbldlnfaiphaaDoor
open Go Go.RowKit Herb Herb.Cm
/-- The package's table lies as its initialiser lays it. -/
def Sets (w : World) : Prop := 0 < w.heap.size ∧ ∀ k, k < 5 → w.cell? ⟨0, k, none⟩ = some (.int .i64 (setOf k))
theorem Sets.below {w w' : World} (h : Sets w) (hb : Below w.heap.size w w') : Sets w' :=
  ⟨Nat.lt_of_lt_of_le h.1 hb.size, fun k hk => (hb.cell (p := ⟨0, k, none⟩) h.1).trans (h.2 k hk)⟩

theorem check1_any (w : World) (k v : ByteArray) (va ki : Nat) :
    Calls Tryd.prog 34 #[.agg #[.string k, .int .u32 (va : Int), .int .u8 (ki : Int), .string v]] w fun e w' => e = .returned (.bool (!chB ⟨k, va, ki, v⟩)) ∧ Below w.heap.size w w' := by
  have hb := (Below.refl w.heap.size w).alloc (Nat.le_refl _) (.cells #[.string k, .int .u32 (va : Int), .int .u8 (ki : Int), .string v] 51)
  have c1 := fun W => change_any W k v va ki
  go_enter Tryd.func34, Tryd.ntmps34
  go_wp2_with fail
  refine (c1 _).mono ?_
  rintro _ w1 ⟨rfl, b1⟩
  go_wp2
  go_ret
  exact ⟨rfl, hb.trans (b1.mono hb.size)⟩

set_option maxHeartbeats 800000 in
theorem indexCh_any (w : World) (A : Option Addr) (n c : Nat) (cs : List Ch) (hn : cs.length = n) (hn2 : n ≤ 1000000000) (hb : Cs w A cs) :
    Calls Tryd.prog 58 #[.slice A n c, .func (.func 34) #[] #[]] w fun e w' => (∃ i : Int, e = .returned (.int .i64 i) ∧ decide (0 ≤ i) = !(cs.all chB)) ∧ Below w.heap.size w w' := by
  subst hn
  go_enter Tryd.func58, Tryd.ntmps58
  go_wp2
  go_loopw [8] (fun i wr => ∃ k : Nat, k ≤ cs.length ∧ i = .int .i64 (k : Int) ∧ (∀ j (hj : j < cs.length), j < k → chB cs[j] = true) ∧ Below w.heap.size w wr) (fun i _ => cs.length - (intOf i).toNat)
  case atStart => exact ⟨0, by omega, rfl, fun j _ h => absurd h (by omega), Below.refl _ _⟩
  case round =>
    obtain ⟨k, hk, rfl, hall, hB⟩ := hrel
    replace hall := Lib.hid hall
    by_cases hlt : k < cs.length
    · obtain ⟨b, off, rfl, hblt, hc⟩ := (hb.below hB).at_ hlt
      obtain ⟨c0, c1, c2, c3⟩ := hc k hlt
      obtain ⟨x, hx⟩ : ∃ x, cs[k] = x := ⟨_, rfl⟩
      rw [hx] at c0 c1 c2 c3
      obtain ⟨xk, xva, xki, xv⟩ := x
      replace hx := Lib.hid hx
      replace hc := Lib.hid hc
      simp only at c0 c1 c2 c3
      have hd := fun W => check1_any W xk xv xva xki
      cases hxb : chB ⟨xk, xva, xki, xv⟩ with
      | true =>
        rw [hxb] at hd
        replace hxb := Lib.hid hxb
        go_wp2_with fail
        refine (hd _).mono ?_
        rintro _ w1 ⟨rfl, b1⟩
        go_wp2
        go_roundw
        case rel =>
          refine ⟨k + 1, by omega, by go_num, fun j hj hjk => ?_, hB.trans (b1.mono hB.size)⟩
          rcases Nat.lt_succ_iff_lt_or_eq.1 hjk with h | rfl
          · exact hall.out j hj h
          · rw [hx.out]; exact hxb.out
        case measure => simp [intOf]; omega
      | false =>
        have hcf : cs.all chB = false := by
          refine Bool.eq_false_iff.2 fun h => ?_
          have h2 := List.all_eq_true.1 h _ (List.getElem_mem hlt)
          rw [hx.out, hxb] at h2
          cases h2
        rw [hxb] at hd
        replace hxb := Lib.hid hxb
        replace hcf := Lib.hid hcf
        go_wp2_with fail
        refine (hd _).mono ?_
        rintro _ w1 ⟨rfl, b1⟩
        go_wp2
        go_ret
        exact ⟨⟨(k : Int), rfl, by rw [hcf.out]; simp⟩, hB.trans (b1.mono hB.size)⟩
    · have hct : cs.all chB = true := by
        rw [List.all_eq_true]
        intro x hx
        obtain ⟨j, hj, rfl⟩ := List.getElem_of_mem hx
        exact hall.out j hj (by omega)
      replace hct := Lib.hid hct
      go_wp2
      go_ret
      exact ⟨⟨-1, rfl, by rw [hct.out]; simp⟩, hB⟩
theorem containsCh_any (w : World) (A : Option Addr) (n c : Nat) (cs : List Ch) (hn : cs.length = n) (hn2 : n ≤ 1000000000) (hb : Cs w A cs) :
    Calls Tryd.prog 33 #[.slice A n c, .func (.func 34) #[] #[]] w fun e w' => e = .returned (.bool (!(cs.all chB))) ∧ Below w.heap.size w w' := by
  have hi := indexCh_any w A n c cs hn hn2 hb
  replace hn := Lib.hid hn
  go_enter Tryd.func33, Tryd.ntmps33
  go_wp2_with fail
  refine hi.mono ?_
  rintro _ w1 ⟨⟨i, rfl, hd⟩, b1⟩
  replace hd := Lib.hid hd
  go_wp2
  go_ret
  exact ⟨by rw [← hd.out]; rfl, b1⟩
set_option maxRecDepth 100000 in
set_option maxHeartbeats 6400000 in
theorem check_any (w : World) (hS : Sets w) (kind : Nat) (br ot : ByteArray) (pl : Nat) (A : Option Addr) (n c : Nat) (cs : List Ch) (hn : cs.length = n) (hn2 : n ≤ 1000000000) (hb : Cs w A cs) (hbr : br.size ≤ 140737488355328) (hot : ot.size ≤ 140737488355328) :
    Calls Tryd.prog 14 #[.agg #[.int .u8 (kind : Int), .string br, .string ot, .int .u64 (pl : Int), .slice A n c]] w fun e w' => e = .returned (.int .i64 (if chk ⟨kind, br, ot, pl, cs⟩ then 0 else 1)) ∧ Below w.heap.size w w' := by
  obtain ⟨M, hM⟩ : ∃ M, chk ⟨kind, br, ot, pl, cs⟩ = M := ⟨_, rfl⟩
  rw [hM]
  unfold chk at hM
  simp only at hM
  have h0 := (Below.refl w.heap.size w).alloc (Nat.le_refl _) (.cells #[.int .u8 (kind : Int), .string br, .string ot, .int .u64 (pl : Int), .slice A n c] 26)
  have kb := Blk.new w 26 #[.int .u8 (kind : Int), .string br, .string ot, .int .u64 (pl : Int), .slice A n c]
  have cn := fun W => name_any W br hbr
  have cn2 := fun W => name_any W ot hot
  have cc := fun W (h : Cs W A cs) => containsCh_any W A n c cs hn hn2 h
  obtain ⟨nb, hnb⟩ : ∃ nb, nameB br = nb := ⟨_, rfl⟩
  obtain ⟨nb2, hnb2⟩ : ∃ nb, nameB ot = nb := ⟨_, rfl⟩
  obtain ⟨al, hal⟩ : ∃ al, cs.all chB = al := ⟨_, rfl⟩
  have fz := ba_nil ot _ rfl
  obtain ⟨z, hz⟩ : ∃ z, decide (ot.size = 0) = z := ⟨_, rfl⟩
  obtain ⟨y, hy⟩ : ∃ y, decide (pl = 0) = y := ⟨_, rfl⟩
  obtain ⟨x, hx⟩ : ∃ x, decide (n = 0) = x := ⟨_, rfl⟩
  obtain ⟨u1, hu1⟩ : ∃ u, decide (1 ≤ n) = u := ⟨_, rfl⟩
  obtain ⟨u2, hu2⟩ : ∃ u, decide (n ≤ 32) = u := ⟨_, rfl⟩
  have fy : ((pl : Int) == 0) = y := by rw [← hy]; by_cases h : pl = 0 <;> simp [h]
  have fx : ((n : Int) == 0) = x := by rw [← hx]; by_cases h : n = 0 <;> simp [h]
  have f1 : decide ((1 : Int) ≤ (n : Int)) = u1 := by rw [← hu1]; exact decide_eq_decide.2 (by omega)
  have f2 : decide ((n : Int) ≤ 32) = u2 := by rw [← hu2]; exact decide_eq_decide.2 (by omega)
  rw [hz] at fz
  rw [hn, hnb, hnb2, hal, hz, hy, hx, hu1, hu2] at hM
  rw [hnb] at cn
  rw [hnb2] at cn2
  rw [hal] at cc
  clear hnb hnb2 hal hz hy hx hu1 hu2
  replace hn := Lib.hid hn
  replace cn := Lib.hid cn
  replace cn2 := Lib.hid cn2
  replace cc := Lib.hid cc
  replace kb := Lib.hid kb
  replace hS := Lib.hid hS
  replace hM := Lib.hid hM
  by_cases hk : 4 < kind
  · have d : decide ((4 : Int) < (kind : Int)) = true := decide_eq_true (by omega)
    obtain rfl : M = false := by rw [← hM.out, show decide (kind ≤ 4) = false from decide_eq_false (by omega)]; rfl
    go_enter Tryd.func14, Tryd.ntmps14
    go_wp2
    go_ret
    exact ⟨rfl, h0⟩
  have hk5 : kind = 0 ∨ kind = 1 ∨ kind = 2 ∨ kind = 3 ∨ kind = 4 := by omega
  clear hk
  rcases hk5 with rfl | rfl | rfl | rfl | rfl
  · have c0 := kb.out.cell
    go_enter Tryd.func14, Tryd.ntmps14
    go_wp2_with fail
    refine (cn.out _).mono ?_
    rintro _ w1 ⟨rfl, b1⟩
    have hB1 := h0.trans (b1.mono h0.size)
    have kb1 := kb.out.below b1 kb.out.lt
    have c1 := kb1.cell
    have g1 : w1.cell? ⟨0, 0, none⟩ = some (.int .i64 4) := ((hS.out.below hB1).2 0 (by omega)).trans rfl
    clear c0 b1 kb
    cases nb
    · obtain rfl : M = false := by rw [← hM.out]; simp [two, many, trim]
      go_wp2
      go_ret
      exact ⟨rfl, hB1⟩
    · cases z
      · obtain rfl : M = false := by rw [← hM.out]; simp [two, many, trim]
        go_wp2
        go_ret
        exact ⟨rfl, hB1⟩
      · cases y
        · obtain rfl : M = false := by rw [← hM.out]; simp [two, many, trim]
          go_wp2
          go_ret
          exact ⟨rfl, hB1⟩
        · cases u1
          · obtain rfl : M = false := by rw [← hM.out]; simp [two, many, trim]
            go_wp2
            go_ret
            exact ⟨rfl, hB1⟩
          · cases u2
            · obtain rfl : M = false := by rw [← hM.out]; simp [two, many, trim]
              go_wp2
              go_ret
              exact ⟨rfl, hB1⟩
            · go_wp2_with fail
              refine (cc.out _ (hb.below hB1)).mono ?_
              rintro _ w9 ⟨rfl, b9⟩
              have hB9 := hB1.trans (b9.mono hB1.size)
              cases al
              · obtain rfl : M = false := by rw [← hM.out]; simp [two, many, trim]
                go_wp2
                go_ret
                exact ⟨rfl, hB9⟩
              · obtain rfl : M = true := by rw [← hM.out]; simp [two, many, trim]
                go_wp2
                go_ret
                exact ⟨rfl, hB9⟩
  · have c0 := kb.out.cell
    go_enter Tryd.func14, Tryd.ntmps14
    go_wp2_with fail
    refine (cn.out _).mono ?_
    rintro _ w1 ⟨rfl, b1⟩
    have hB1 := h0.trans (b1.mono h0.size)
    have kb1 := kb.out.below b1 kb.out.lt
    have c1 := kb1.cell
    have g1 : w1.cell? ⟨0, 1, none⟩ = some (.int .i64 1) := ((hS.out.below hB1).2 1 (by omega)).trans rfl
    clear c0 b1 kb
    cases nb
    · obtain rfl : M = false := by rw [← hM.out]; simp [two, many, trim]
      go_wp2
      go_ret
      exact ⟨rfl, hB1⟩
    · go_wp2_with fail
      refine (cn2.out _).mono ?_
      rintro _ w2 ⟨rfl, b2⟩
      have hB2 := hB1.trans (b2.mono hB1.size)
      have kb2 := kb1.below b2 kb1.lt
      have c2 := kb2.cell
      clear c1 g1 b2
      cases nb2
      · obtain rfl : M = false := by rw [← hM.out]; simp [two, many, trim]
        go_wp2
        go_ret
        exact ⟨rfl, hB2⟩
      · cases y
        · obtain rfl : M = false := by rw [← hM.out]; simp [two, many, trim]
          go_wp2
          go_ret
          exact ⟨rfl, hB2⟩
        · cases x
          · obtain rfl : M = false := by rw [← hM.out]; simp [two, many, trim]
            go_wp2
            go_ret
            exact ⟨rfl, hB2⟩
          · go_wp2_with fail
            refine (cc.out _ (hb.below hB2)).mono ?_
            rintro _ w9 ⟨rfl, b9⟩
            have hB9 := hB2.trans (b9.mono hB2.size)
            cases al
            · obtain rfl : M = false := by rw [← hM.out]; simp [two, many, trim]
              go_wp2
              go_ret
              exact ⟨rfl, hB9⟩
            · obtain rfl : M = true := by rw [← hM.out]; simp [two, many, trim]
              go_wp2
              go_ret
              exact ⟨rfl, hB9⟩
  · have c0 := kb.out.cell
    go_enter Tryd.func14, Tryd.ntmps14
    go_wp2_with fail
    refine (cn.out _).mono ?_
    rintro _ w1 ⟨rfl, b1⟩
    have hB1 := h0.trans (b1.mono h0.size)
    have kb1 := kb.out.below b1 kb.out.lt
    have c1 := kb1.cell
    have g1 : w1.cell? ⟨0, 2, none⟩ = some (.int .i64 0) := ((hS.out.below hB1).2 2 (by omega)).trans rfl
    clear c0 b1 kb
    cases nb
    · obtain rfl : M = false := by rw [← hM.out]; simp [two, many, trim]
      go_wp2
      go_ret
      exact ⟨rfl, hB1⟩
    · cases z
      · obtain rfl : M = false := by rw [← hM.out]; simp [two, many, trim]
        go_wp2
        go_ret
        exact ⟨rfl, hB1⟩
      · cases y
        · obtain rfl : M = false := by rw [← hM.out]; simp [two, many, trim]
          go_wp2
          go_ret
          exact ⟨rfl, hB1⟩
        · cases x
          · obtain rfl : M = false := by rw [← hM.out]; simp [two, many, trim]
            go_wp2
            go_ret
            exact ⟨rfl, hB1⟩
          · go_wp2_with fail
            refine (cc.out _ (hb.below hB1)).mono ?_
            rintro _ w9 ⟨rfl, b9⟩
            have hB9 := hB1.trans (b9.mono hB1.size)
            cases al
            · obtain rfl : M = false := by rw [← hM.out]; simp [two, many, trim]
              go_wp2
              go_ret
              exact ⟨rfl, hB9⟩
            · obtain rfl : M = true := by rw [← hM.out]; simp [two, many, trim]
              go_wp2
              go_ret
              exact ⟨rfl, hB9⟩
  · have c0 := kb.out.cell
    go_enter Tryd.func14, Tryd.ntmps14
    go_wp2_with fail
    refine (cn.out _).mono ?_
    rintro _ w1 ⟨rfl, b1⟩
    have hB1 := h0.trans (b1.mono h0.size)
    have kb1 := kb.out.below b1 kb.out.lt
    have c1 := kb1.cell
    have g1 : w1.cell? ⟨0, 3, none⟩ = some (.int .i64 5) := ((hS.out.below hB1).2 3 (by omega)).trans rfl
    clear c0 b1 kb
    cases nb
    · obtain rfl : M = false := by rw [← hM.out]; simp [two, many, trim]
      go_wp2
      go_ret
      exact ⟨rfl, hB1⟩
    · go_wp2_with fail
      refine (cn2.out _).mono ?_
      rintro _ w2 ⟨rfl, b2⟩
      have hB2 := hB1.trans (b2.mono hB1.size)
      have kb2 := kb1.below b2 kb1.lt
      have c2 := kb2.cell
      clear c1 g1 b2
      cases nb2
      · obtain rfl : M = false := by rw [← hM.out]; simp [two, many, trim]
        go_wp2
        go_ret
        exact ⟨rfl, hB2⟩
      · cases y
        · obtain rfl : M = false := by rw [← hM.out]; simp [two, many, trim]
          go_wp2
          go_ret
          exact ⟨rfl, hB2⟩
        · go_wp2_with fail
          refine (cc.out _ (hb.below hB2)).mono ?_
          rintro _ w9 ⟨rfl, b9⟩
          have hB9 := hB2.trans (b9.mono hB2.size)
          cases al
          · obtain rfl : M = false := by rw [← hM.out]; simp [two, many, trim]
            go_wp2
            go_ret
            exact ⟨rfl, hB9⟩
          · obtain rfl : M = true := by rw [← hM.out]; simp [two, many, trim]
            go_wp2
            go_ret
            exact ⟨rfl, hB9⟩
  · have c0 := kb.out.cell
    go_enter Tryd.func14, Tryd.ntmps14
    go_wp2_with fail
    refine (cn.out _).mono ?_
    rintro _ w1 ⟨rfl, b1⟩
    have hB1 := h0.trans (b1.mono h0.size)
    have kb1 := kb.out.below b1 kb.out.lt
    have c1 := kb1.cell
    have g1 : w1.cell? ⟨0, 4, none⟩ = some (.int .i64 2) := ((hS.out.below hB1).2 4 (by omega)).trans rfl
    clear c0 b1 kb
    cases nb
    · obtain rfl : M = false := by rw [← hM.out]; simp [two, many, trim]
      go_wp2
      go_ret
      exact ⟨rfl, hB1⟩
    · cases z
      · obtain rfl : M = false := by rw [← hM.out]; simp [two, many, trim]
        go_wp2
        go_ret
        exact ⟨rfl, hB1⟩
      · cases x
        · obtain rfl : M = false := by rw [← hM.out]; simp [two, many, trim]
          go_wp2
          go_ret
          exact ⟨rfl, hB1⟩
        · go_wp2_with fail
          refine (cc.out _ (hb.below hB1)).mono ?_
          rintro _ w9 ⟨rfl, b9⟩
          have hB9 := hB1.trans (b9.mono hB1.size)
          cases al
          · obtain rfl : M = false := by rw [← hM.out]; simp [two, many, trim]
            go_wp2
            go_ret
            exact ⟨rfl, hB9⟩
          · obtain rfl : M = true := by rw [← hM.out]; simp [two, many, trim]
            go_wp2
            go_ret
            exact ⟨rfl, hB9⟩
end Go.Proofs.YtccbldlnfaiphaaDoor
