/- Walk of the document's frames: Put. -/
import Derived.Test.YtnjihcjijicgpaaDoorFrRefA
import Derived.Test.YtnjihcjijicgpaaDoorFrRefB
set_option linter.unusedSimpArgs false
set_option linter.unusedVariables false
namespace Herb
open Go Go.RowKit
theorem run_appz0 {P : Program} {w : World} {t tn ty e : TypeId} {z : Value} {size bytes : Nat} (ht : P.underlying t = some (.slice e)) (htn : P.underlying tn = some (.int .i64))
    (hinfo : (P.info? e).map (fun i => (i.zero, i.size, i.bytes)) = some (some z, size, bytes)) {base : Nat} {v : Value} {n : Nat} {xs : List Value} (hown : w.ownsRow base e size v n xs) :
    (Builtin.append_ #[t, tn] ty #[v, .int .i64 0]).run P w = .ok v w := by
  obtain ⟨i, hi, hz, hs1, hb⟩ := info_parts hinfo
  have hw : IntKind.i64.wrap (0 : Int) = 0 := by rw [IntKind.wrap_i64]; rfl
  rcases hown.2 with ⟨rfl, rfl⟩ | ⟨g, cap, cur, rfl, _, _, hnc, _⟩
  · simp [Builtin.append_, run_underlying ht, run_underlying htn, Go.sizeOf, typeInfo, hi, asInt, asIntOf, hw]
  · simp [Builtin.append_, run_underlying ht, run_underlying htn, Go.sizeOf, typeInfo, hi, asInt, asIntOf, hw, hnc, storeCells]
/-- append(v, make([]byte, n)...), where v is nil or n is 0. -/
theorem wpList_appz2 {P : Program} {w : World} {ops : Array Oper} {rest : List Oper} {o : Oper} {a : Act} {Q : Exit → Act → World → Prop} (hgd : o.guard = none) (s x : Operand) {t tn : TypeId}
    (ho : o.op = .call { callee := .builtin .append, args := #[s, x], argTypes := #[t, tn] })
    {base : Nat} {e : TypeId} {z : Value} {bytes : Nat} (ht : P.underlying t = some (.slice e)) (htn : P.underlying tn = some (.int .i64))
    (hinfo : (P.info? e).map (fun i => (i.zero, i.size, i.bytes)) = some (some z, 1, bytes)) (hz1 : z.cells = #[z]) (n : Nat) (hn : n ≤ 1000) (hby : bytes ≤ 1000)
    {v : Value} {m : Nat} {xs : List Value} (hown : w.ownsRow base e 1 v m xs) (h0 : n = 0 ∨ (v = .slice none 0 0 ∧ m = 0))
    (hs : a.eval s = v) (hx : a.eval x = .int .i64 (n : Int)) (hbase : base ≤ w.heap.size)
    (h : ∀ v' w', w'.ownsRow base e 1 v' (m + n) (xs ++ List.replicate n z) → Below w.heap.size w w' → wpList P ops Q rest (a.put o.dst v') w') : wpList P ops Q (o :: rest) a w := by
  by_cases hn0 : n = 0
  · subst hn0
    refine Lib.wpList_append_run w hgd s x t tn ho _ _ hs hx _ _ (run_appz0 ht htn hinfo hown) ?_
    exact h _ _ (by simpa using hown) (Below.refl _ _)
  · rcases h0 with h0 | ⟨rfl, rfl⟩
    · exact absurd h0 hn0
    · have hxs : xs = [] := List.eq_nil_of_length_eq_zero (by simpa using hown.1)
      subst hxs
      refine wpList_appz hgd s x ho ht htn hinfo hz1 n (by omega) hn hby hs hx hbase ?_
      intro v' w' h1 h2
      exact h v' w' (by simpa using h1) h2
end Herb
namespace Go.Proofs.YtnjihcjijicgpaaDoor
open Go Go.RowKit Herb
theorem refPart_at (w : World) (k : UInt8) (kv : Int) (hk : kv = (k.toNat : Int)) (A : Option Addr) (n c : Nat) (x : List UInt8) (hx : x.length = n) (hn : n ≤ 65536) (hb : Bs w A x) :
    Calls Tryd.prog 21 #[.int .u8 kv, .slice A n c] w fun e w' => ∃ A' c', e = .returned (.slice A' (7 + n) c') ∧ w'.ownsRow w.heap.size 5 1 (.slice A' (7 + n) c') (7 + n) (bvs (Fr.part k x)) ∧ Below w.heap.size w w' := by
  subst hk
  exact refPart_any w k A n c x hx hn hb
theorem refPut_neg (w : World) (x : Int) (h : x < 0) (A : Option Addr) (n c : Nat) : Calls Tryd.prog 8 #[.int .i64 x, .slice A n c] w fun e w' => e = .returned (.tuple #[.slice none 0 0, .int .i64 1]) ∧ w = w' := by
  have d : decide (x < 0) = true := decide_eq_true h
  go_enter Tryd.func8, Tryd.ntmps8
  go_wp2
  go_ret2
  exact ⟨rfl, rfl⟩
theorem refPut_great (w : World) (x : Int) (h : 0 ≤ x) (A : Option Addr) (n c : Nat) (hn : 65536 < n) : Calls Tryd.prog 8 #[.int .i64 x, .slice A n c] w fun e w' => e = .returned (.tuple #[.slice none 0 0, .int .i64 3]) ∧ w = w' := by
  have d : decide (x < 0) = false := decide_eq_false (by omega)
  have d2 : decide ((65536 : Int) < (n : Int)) = true := decide_eq_true (by omega)
  go_enter Tryd.func8, Tryd.ntmps8
  go_wp2
  go_ret2
  exact ⟨rfl, rfl⟩

set_option maxRecDepth 100000 in
set_option maxHeartbeats 16000000 in
theorem refPut_any (w : World) (p : Nat) (hp : p ≤ 9223372036854775807) (A : Option Addr) (n c : Nat) (r : List UInt8) (hln : r.length = n) (hn : n ≤ 65536) (hnc : n ≤ c) (hb : Bs w A r) :
    Calls Tryd.prog 8 #[.int .i64 (p : Int), .slice A n c] w fun e w' => ∃ A' k cap, e = .returned (.tuple #[.slice A' k cap, .int .i64 0]) ∧ (Fr.put p r).length = k ∧ Bs w' A' (Fr.put p r) ∧ Below w.heap.size w w' := by
  have d : decide ((p : Int) < 0) = false := decide_eq_false (by omega)
  have d2 : decide ((65536 : Int) < (n : Int)) = false := decide_eq_false (by omega)
  obtain ⟨q, hq⟩ : ∃ q, p % 256 = q := ⟨_, rfl⟩
  have hqi : (p : Int) % 256 = (q : Int) := by omega
  have hq256 : q < 256 := by omega
  have htot := Fr.put_mod p r
  rw [hq] at htot
  have hTl := Fr.put_length_le p r
  rw [← htot] at hTl ⊢
  clear htot
  obtain ⟨T, hT⟩ : ∃ T, Fr.put q r = T := ⟨_, rfl⟩
  rw [hT] at hTl ⊢
  have hst : ∃ fu, Fr.Enough fu q r ∧ Fr.putF fu q false r = T := ⟨_, Fr.enough_put q r, hT⟩
  replace hln := Lib.hid hln
  clear hT hq
  replace hst := Lib.hid hst
  go_enter Tryd.func8, Tryd.ntmps8
  go_wp2_with fail
  simp only [hqi]
  clear hqi
  go_loopw [1, 6, 7] (fun v1 v6 v7 wr => ∃ (fu m n' c' : Nat) (g : Bool) (A' : Option Addr) (r' out : List UInt8), v1 = .slice A' n' c' ∧ r'.length = n' ∧ n' ≤ n ∧ n' ≤ c' ∧ Bs w A' r' ∧ v7 = .bool g ∧ wr.ownsRow w.heap.size 5 1 v6 m (bvs out)
      ∧ Fr.Enough fu (q + m) r' ∧ out ++ Fr.putF fu (q + m) g r' = T ∧ out.length = m ∧ ((v6 = .slice none 0 0 ∧ m = 0) ∨ (q + m) % 256 = 0) ∧ Below w.heap.size w wr)
    (fun v1 v6 _ _ => frMs v1 v6)
  case atStart =>
    obtain ⟨fu, hf1, hf2⟩ := hst.out
    exact ⟨fu, 0, n, c, false, A, r, [], rfl, hln.out, by omega, hnc, hb, rfl, World.ownsRow_nil _ _ _ _, hf1, hf2, rfl, .inl ⟨rfl, rfl⟩, Below.refl _ _⟩
  case round =>
    clear hst
    obtain ⟨fu, m, n', c', g, A', r', out, rfl, hr', hn', hnc', hbr, rfl, hown, hen, htot, hm, hpos, hB⟩ := hrel
    have hml : m ≤ 20 * n + 26 := by
      have := congrArg List.length htot
      rw [List.length_append, hm] at this
      have := hln.out
      omega
    have hgeo := Fr.geo (q + m)
    have hgl := Fr.gap_le (q + m)
    obtain ⟨G, hG⟩ : ∃ G, Fr.gap (q + m) = G := ⟨_, rfl⟩
    obtain ⟨rm, hrm⟩ : ∃ rm, Fr.room (q + m) = rm := ⟨_, rfl⟩
    obtain ⟨A6, c6, rfl⟩ := own_slice hown
    have hG0 : G = 0 ∨ (Value.slice A6 m c6 = .slice none 0 0 ∧ m = 0) := by
      rcases hpos with h | h
      · exact .inr h
      · exact .inl (by rw [← hG]; exact (Fr.room_zero _ h).2)
    rw [hG, hrm] at hgeo
    rw [hG] at hgl
    obtain ⟨m1, hm1⟩ : ∃ m1, m + G = m1 := ⟨_, rfl⟩
    have cg := fun W => refGap_any (q + m) G hG (by omega) ((q : Int) + (m : Int)) (by omega) W
    have hLm : (256 : Int) - ((q : Int) + (m1 : Int)) % 256 - 7 = (rm : Int) := by have := hgeo.2.1; rw [← hm1] at *; omega
    have hm1b : m1 ≤ 20 * n + 60 := by omega
    have hrm249 : rm ≤ 249 := by have := hgeo.2.1; omega
    replace htot := Lib.hid htot
    replace hr' := Lib.hid hr'
    replace hen := Lib.hid hen
    replace hm := Lib.hid hm
    replace hpos := Lib.hid hpos
    replace hgeo := Lib.hid hgeo
    replace hm1 := Lib.hid hm1
    replace hG0 := Lib.hid hG0
    replace hG := Lib.hid hG
    replace hrm := Lib.hid hrm
    by_cases hfin : n' ≤ rm
    · rcases g with _ | _
      · have d4 : decide ((n' : Int) ≤ (rm : Int)) = true := decide_eq_true (by omega)
        go_wp2_with fail
        refine (cg _).mono ?_
        rintro _ _ ⟨rfl, rfl⟩
        go_wp2_with (first | (at_builtin; refine wpList_appz2 rfl (.tmp 17) (.tmp 22) rfl Tryd.underlying22 Tryd.underlying3 infoF8 rfl G (by omega) (by omega) hown hG0.out rfl rfl hB.size ?_; intro v2 w2 hown2 b2; obtain ⟨A2, c2, rfl⟩ := own_slice hown2; rw [← bvs_zeros, ← bvs_append, hm1.out] at hown2; rw [hm1.out]) | fail)
        have hB2 := hB.trans (b2.mono hB.size)
        have hXl : r'.length = n' := by exact hr'.out
        have pp := refPart_at w2 1 1 rfl A' n' c' r' hXl (by omega) (hbr.below hB2)
        have oneP := bvs_one (Fr.part 1 r')
        have hfu : ∃ fu', fu = fu' + 1 := by
          cases fu with
          | zero => have := hen.out; unfold Fr.Enough at this; split at this <;> omega
          | succ fu => exact ⟨fu, rfl⟩
        obtain ⟨fu', rfl⟩ := hfu
        have hTe : out ++ Fr.zeros G ++ Fr.part 1 r' = T := by
          rw [← htot.out, Fr.putF_le _ _ _ _ (by rw [hrm.out, hr'.out]; exact hfin), hG.out, List.append_assoc]
          rfl
        have hlen : T.length = m1 + (7 + n') := by rw [← hTe, List.length_append, List.length_append, hm.out, Fr.zeros_length, hm1.out, Fr.part_length, hXl]
        replace hTe := Lib.hid hTe
        replace hlen := Lib.hid hlen
        replace pp := Lib.hid pp
        replace oneP := Lib.hid oneP
        replace hXl := Lib.hid hXl
        refine pp.out.mono ?_
        rintro _ w3 ⟨A3, c3, rfl, hown3, b3⟩
        have r3 := Rd.of_own hown3
        have hown2' := own_below hown2 b3
        have hB3 := hB2.trans (b3.mono hB2.size)
        clear pp
        go_wp2_with (first | (at_builtin; refine wpList_app w3 rfl (.tmp 40) (.tmp 42) rfl Tryd.underlying22 infoF8 rfl (by omega) hown2' rfl A3 (7 + n') c3 r3 rfl oneP.out (by unfold maxLen; omega) (by omega) hB3.size ?_; intro v4 w4 hown4 hgrow4 _; have b4 : Below w.heap.size w w4 := below_app hB3 hown2' (Nat.le_refl _) hB3.size hgrow4; obtain ⟨g4, c4, rfl, _, _⟩ := hown4.form (by omega)) | fail)
        rw [← bvs_append, hTe.out] at hown4
        go_ret2
        exact ⟨some ⟨g4, 0, none⟩, m1 + (7 + n'), c4, rfl, hlen.out, bs_of (Rd.of_own hown4) hlen.out, b4⟩
      · have d4 : decide ((n' : Int) ≤ (rm : Int)) = true := decide_eq_true (by omega)
        go_wp2_with fail
        refine (cg _).mono ?_
        rintro _ _ ⟨rfl, rfl⟩
        go_wp2_with (first | (at_builtin; refine wpList_appz2 rfl (.tmp 17) (.tmp 22) rfl Tryd.underlying22 Tryd.underlying3 infoF8 rfl G (by omega) (by omega) hown hG0.out rfl rfl hB.size ?_; intro v2 w2 hown2 b2; obtain ⟨A2, c2, rfl⟩ := own_slice hown2; rw [← bvs_zeros, ← bvs_append, hm1.out] at hown2; rw [hm1.out]) | fail)
        have hB2 := hB.trans (b2.mono hB.size)
        have hXl : r'.length = n' := by exact hr'.out
        have pp := refPart_at w2 4 4 rfl A' n' c' r' hXl (by omega) (hbr.below hB2)
        have oneP := bvs_one (Fr.part 4 r')
        have hfu : ∃ fu', fu = fu' + 1 := by
          cases fu with
          | zero => have := hen.out; unfold Fr.Enough at this; split at this <;> omega
          | succ fu => exact ⟨fu, rfl⟩
        obtain ⟨fu', rfl⟩ := hfu
        have hTe : out ++ Fr.zeros G ++ Fr.part 4 r' = T := by
          rw [← htot.out, Fr.putF_le _ _ _ _ (by rw [hrm.out, hr'.out]; exact hfin), hG.out, List.append_assoc]
          rfl
        have hlen : T.length = m1 + (7 + n') := by rw [← hTe, List.length_append, List.length_append, hm.out, Fr.zeros_length, hm1.out, Fr.part_length, hXl]
        replace hTe := Lib.hid hTe
        replace hlen := Lib.hid hlen
        replace pp := Lib.hid pp
        replace oneP := Lib.hid oneP
        replace hXl := Lib.hid hXl
        refine pp.out.mono ?_
        rintro _ w3 ⟨A3, c3, rfl, hown3, b3⟩
        have r3 := Rd.of_own hown3
        have hown2' := own_below hown2 b3
        have hB3 := hB2.trans (b3.mono hB2.size)
        clear pp
        go_wp2_with (first | (at_builtin; refine wpList_app w3 rfl (.tmp 36) (.tmp 38) rfl Tryd.underlying22 infoF8 rfl (by omega) hown2' rfl A3 (7 + n') c3 r3 rfl oneP.out (by unfold maxLen; omega) (by omega) hB3.size ?_; intro v4 w4 hown4 hgrow4 _; have b4 : Below w.heap.size w w4 := below_app hB3 hown2' (Nat.le_refl _) hB3.size hgrow4; obtain ⟨g4, c4, rfl, _, _⟩ := hown4.form (by omega)) | fail)
        rw [← bvs_append, hTe.out] at hown4
        go_ret2
        exact ⟨some ⟨g4, 0, none⟩, m1 + (7 + n'), c4, rfl, hlen.out, bs_of (Rd.of_own hown4) hlen.out, b4⟩
    · rcases g with _ | _
      · have d4 : decide ((n' : Int) ≤ (rm : Int)) = false := decide_eq_false (by omega)
        go_wp2_with fail
        refine (cg _).mono ?_
        rintro _ _ ⟨rfl, rfl⟩
        have hrc : rm ≤ c' := by omega
        have hrcI : (rm : Int) ≤ (c' : Int) := by omega
        have hrnI : (rm : Int) ≤ (n' : Int) := by omega
        go_wp2_with (first | (at_builtin; refine wpList_appz2 rfl (.tmp 17) (.tmp 22) rfl Tryd.underlying22 Tryd.underlying3 infoF8 rfl G (by omega) (by omega) hown hG0.out rfl rfl hB.size ?_; intro v2 w2 hown2 b2; obtain ⟨A2, c2, rfl⟩ := own_slice hown2; rw [← bvs_zeros, ← bvs_append, hm1.out] at hown2; rw [hm1.out]) | fail)
        have hB2 := hB.trans (b2.mono hB.size)
        have hXl : (r'.take rm).length = rm := by rw [List.length_take, hr'.out]; omega
        have pp := refPart_at w2 2 2 rfl A' rm c' (r'.take rm) hXl (by omega) ((hbr.take rm).below hB2)
        have oneP := bvs_one (Fr.part 2 (r'.take rm))
        have hfu : ∃ fu', fu = fu' + 1 := by
          cases fu with
          | zero => have := hen.out; unfold Fr.Enough at this; split at this <;> omega
          | succ fu => exact ⟨fu, rfl⟩
        obtain ⟨fu', rfl⟩ := hfu
        replace pp := Lib.hid pp
        replace oneP := Lib.hid oneP
        replace hXl := Lib.hid hXl
        refine pp.out.mono ?_
        rintro _ w3 ⟨A3, c3, rfl, hown3, b3⟩
        have r3 := Rd.of_own hown3
        have hown2' := own_below hown2 b3
        have hB3 := hB2.trans (b3.mono hB2.size)
        clear pp
        obtain ⟨bA, oA, rfl, hbA, _⟩ := hbr.at_ (k := rm) (by rw [hr'.out]; omega)
        have hbn : Bs w (some ⟨bA, oA + rm, none⟩) (r'.drop rm) := by
          have h := hbr.cut (k := rm) (m := n' - rm) (by rw [hr'.out]; omega)
          rwa [List.take_of_length_le (by rw [List.length_drop, hr'.out]; omega)] at h
        have d5 : ((rm : Int) == (n' : Int)) = false := by simp; omega
        go_wp2_with (first | (at_builtin; refine wpList_app w3 rfl (.tmp 46) (.tmp 51) rfl Tryd.underlying22 infoF8 rfl (by omega) hown2' rfl A3 (7 + rm) c3 r3 rfl oneP.out (by unfold maxLen; omega) (by omega) hB3.size ?_; intro v4 w4 hown4 hgrow4 _; have b4 : Below w.heap.size w w4 := below_app hB3 hown2' (Nat.le_refl _) hB3.size hgrow4; obtain ⟨g4, c4, rfl, _, _⟩ := hown4.form (by omega)) | fail)
        have hgt : Fr.room (q + m) < r'.length := by rw [hrm.out, hr'.out]; omega
        have hTe := htot.out
        rw [Fr.putF_gt _ _ _ _ hgt] at hTe
        have hen' := Fr.enough_next hen.out hgt
        rw [hrm.out, hG.out] at hTe hen'
        have hpx : q + m + G + 7 + rm = q + (m1 + (7 + rm)) := by have := hm1.out; omega
        rw [hpx] at hTe hen'
        have hTe2 : out ++ Fr.zeros G ++ Fr.part 2 (r'.take rm) ++ Fr.putF fu' (q + (m1 + (7 + rm))) true (r'.drop rm) = T := by
          rw [← hTe]
          simp only [List.append_assoc]
          rfl
        have hlo : (out ++ Fr.zeros G ++ Fr.part 2 (r'.take rm)).length = m1 + (7 + rm) := by rw [List.length_append, List.length_append, hm.out, Fr.zeros_length, hm1.out, Fr.part_length, hXl.out]
        rw [← bvs_append] at hown4
        have hnext : (q + (m1 + (7 + rm))) % 256 = 0 := by rw [← hpx]; exact hgeo.out.2.2
        go_roundw
        case rel => exact ⟨fu', m1 + (7 + rm), n' - rm, c' - rm, true, _, r'.drop rm, _, rfl, by rw [List.length_drop, hr'.out], by omega, by omega, hbn, rfl, hown4, hen', hTe2, hlo, .inr hnext, b4⟩
        case measure =>
          show frMs _ _ < frMs _ _
          rcases Nat.eq_zero_or_pos rm with h0 | h0
          · rcases hpos.out with ⟨h1, _⟩ | h1
            · rw [h1, h0]; simp only [frMs]; omega
            · have h2 := (Fr.room_zero _ h1).1; rw [hrm.out] at h2; omega
          · have h1 := frMs_le (Value.slice A6 m c6)
            simp only [frMs] at h1 ⊢
            omega
      · have d4 : decide ((n' : Int) ≤ (rm : Int)) = false := decide_eq_false (by omega)
        go_wp2_with fail
        refine (cg _).mono ?_
        rintro _ _ ⟨rfl, rfl⟩
        have hrc : rm ≤ c' := by omega
        have hrcI : (rm : Int) ≤ (c' : Int) := by omega
        have hrnI : (rm : Int) ≤ (n' : Int) := by omega
        go_wp2_with (first | (at_builtin; refine wpList_appz2 rfl (.tmp 17) (.tmp 22) rfl Tryd.underlying22 Tryd.underlying3 infoF8 rfl G (by omega) (by omega) hown hG0.out rfl rfl hB.size ?_; intro v2 w2 hown2 b2; obtain ⟨A2, c2, rfl⟩ := own_slice hown2; rw [← bvs_zeros, ← bvs_append, hm1.out] at hown2; rw [hm1.out]) | fail)
        have hB2 := hB.trans (b2.mono hB.size)
        have hXl : (r'.take rm).length = rm := by rw [List.length_take, hr'.out]; omega
        have pp := refPart_at w2 3 3 rfl A' rm c' (r'.take rm) hXl (by omega) ((hbr.take rm).below hB2)
        have oneP := bvs_one (Fr.part 3 (r'.take rm))
        have hfu : ∃ fu', fu = fu' + 1 := by
          cases fu with
          | zero => have := hen.out; unfold Fr.Enough at this; split at this <;> omega
          | succ fu => exact ⟨fu, rfl⟩
        obtain ⟨fu', rfl⟩ := hfu
        replace pp := Lib.hid pp
        replace oneP := Lib.hid oneP
        replace hXl := Lib.hid hXl
        refine pp.out.mono ?_
        rintro _ w3 ⟨A3, c3, rfl, hown3, b3⟩
        have r3 := Rd.of_own hown3
        have hown2' := own_below hown2 b3
        have hB3 := hB2.trans (b3.mono hB2.size)
        clear pp
        obtain ⟨bA, oA, rfl, hbA, _⟩ := hbr.at_ (k := rm) (by rw [hr'.out]; omega)
        have hbn : Bs w (some ⟨bA, oA + rm, none⟩) (r'.drop rm) := by
          have h := hbr.cut (k := rm) (m := n' - rm) (by rw [hr'.out]; omega)
          rwa [List.take_of_length_le (by rw [List.length_drop, hr'.out]; omega)] at h
        have d5 : ((rm : Int) == (n' : Int)) = false := by simp; omega
        go_wp2_with (first | (at_builtin; refine wpList_app w3 rfl (.tmp 46) (.tmp 51) rfl Tryd.underlying22 infoF8 rfl (by omega) hown2' rfl A3 (7 + rm) c3 r3 rfl oneP.out (by unfold maxLen; omega) (by omega) hB3.size ?_; intro v4 w4 hown4 hgrow4 _; have b4 : Below w.heap.size w w4 := below_app hB3 hown2' (Nat.le_refl _) hB3.size hgrow4; obtain ⟨g4, c4, rfl, _, _⟩ := hown4.form (by omega)) | fail)
        have hgt : Fr.room (q + m) < r'.length := by rw [hrm.out, hr'.out]; omega
        have hTe := htot.out
        rw [Fr.putF_gt _ _ _ _ hgt] at hTe
        have hen' := Fr.enough_next hen.out hgt
        rw [hrm.out, hG.out] at hTe hen'
        have hpx : q + m + G + 7 + rm = q + (m1 + (7 + rm)) := by have := hm1.out; omega
        rw [hpx] at hTe hen'
        have hTe2 : out ++ Fr.zeros G ++ Fr.part 3 (r'.take rm) ++ Fr.putF fu' (q + (m1 + (7 + rm))) true (r'.drop rm) = T := by
          rw [← hTe]
          simp only [List.append_assoc]
          rfl
        have hlo : (out ++ Fr.zeros G ++ Fr.part 3 (r'.take rm)).length = m1 + (7 + rm) := by rw [List.length_append, List.length_append, hm.out, Fr.zeros_length, hm1.out, Fr.part_length, hXl.out]
        rw [← bvs_append] at hown4
        have hnext : (q + (m1 + (7 + rm))) % 256 = 0 := by rw [← hpx]; exact hgeo.out.2.2
        go_roundw
        case rel => exact ⟨fu', m1 + (7 + rm), n' - rm, c' - rm, true, _, r'.drop rm, _, rfl, by rw [List.length_drop, hr'.out], by omega, by omega, hbn, rfl, hown4, hen', hTe2, hlo, .inr hnext, b4⟩
        case measure =>
          show frMs _ _ < frMs _ _
          rcases Nat.eq_zero_or_pos rm with h0 | h0
          · rcases hpos.out with ⟨h1, _⟩ | h1
            · rw [h1, h0]; simp only [frMs]; omega
            · have h2 := (Fr.room_zero _ h1).1; rw [hrm.out] at h2; omega
          · have h1 := frMs_le (Value.slice A6 m c6)
            simp only [frMs] at h1 ⊢
            omega
end Go.Proofs.YtnjihcjijicgpaaDoor
