/- What is put is got, number and all; no beginning of its bytes is an op's, nor they with others behind: for every input, no condition but what the listed variable holds. -/
import Derived.Test.YtccbldlnfaiphaaDoorOpH
import Derived.Test.YtccbldlnfaiphaaDoorOpArg
import Derived.Test.YtccbldlnfaiphaaDoorSameB
import Derived.Test.YtccbldlnfaiphaaDoorApp2
import Derived.Test.YtccbldlnfaiphaaDoorLiftD
import Derived.Test.YtccbldlnfaiphaaDoorCards
import Derived.Test.YtccbldlnfaiphaaDoorTie
import Derived.LaidMore
import Derived.SevenTiedAt
import Derived.Lib.LaidTab
set_option linter.unusedSimpArgs false
set_option linter.unusedVariables false
namespace Go.Proofs.YtccbldlnfaiphaaDoor.lawOpsBack
open Go Go.RowKit Herb Herb.Cm Go.ChangeShapes Go.WideShapes Go.ChangeAt

/-- great's answer, and what is put. -/
theorem start (w : World) (hS : Sets w) (s : Nat) (hs : s < 18446744073709551616) (kind : Nat) (br ot : ByteArray) (pl : Nat) (A : Option Addr) (c : Nat) (cs : List Ch) (hpl : pl < 18446744073709551616) (hb : Cs w A cs) (hfit : ∀ y ∈ cs, ChFit y)
    (hbr : br.size ≤ 140737488355328) (hot : ot.size ≤ 140737488355328) (hcl : cs.length ≤ 1000000000) (R : Int) (E : List UInt8) (hR : putR s ⟨kind, br, ot, pl, cs⟩ = R) (hE : putE s ⟨kind, br, ot, pl, cs⟩ = E) :
    Calls Tryd.prog 12 #[.int .u64 (s : Int), .agg #[.int .u8 (kind : Int), .string br, .string ot, .int .u64 (pl : Int), .slice A cs.length c]] w
      fun e w' => ∃ A' k, e = .returned (.tuple #[.slice A' k k, .int .i64 R]) ∧ E.length = k ∧ Bs w' A' E ∧ Own1 w' w.heap.size w'.heap.size A' k k ∧ Below w.heap.size w w' := by
  have := opPut_any w hS s hs kind br ot pl A cs.length c cs rfl hcl hb hbr hot hpl hfit
  rw [hR, hE] at this
  exact this

set_option maxRecDepth 100000 in
set_option maxHeartbeats 6400000 in
theorem walk0 (w : World) (hS : Sets w) (s : Nat) (hs : s < 18446744073709551616) (kind : Nat) (br ot : ByteArray) (pl : Nat) (A : Option Addr) (c : Nat) (cs : List Ch) (hpl : pl < 18446744073709551616) (hb : Cs w A cs) (hfit : ∀ y ∈ cs, ChFit y)
    (hbr : br.size ≤ 140737488355328) (hot : ot.size ≤ 140737488355328) (hcl : cs.length ≤ 140737488355328) (hsz : ∀ y ∈ cs, y.k.size ≤ 140737488355328 ∧ y.v.size ≤ 140737488355328) (hki : kind < 256)
    (B : Option Addr) (c2 : Nat) (l : List UInt8) (hl : l.length ≤ 140737488355328) (hlb : Bs w B l) (hlc : l.length ≤ c2) (hc2 : c2 ≤ 140737488355328) :
    Calls Tryd.prog 5 #[.int .u64 (s : Int), .agg #[.int .u8 (kind : Int), .string br, .string ot, .int .u64 (pl : Int), .slice A cs.length c], .slice B l.length c2] w fun e w' => e = .returned (.bool true) ∧ Below w.heap.size w w' := by
  obtain ⟨n, hn⟩ : ∃ n, cs.length = n := ⟨_, rfl⟩
  obtain ⟨m, hm⟩ : ∃ m, l.length = m := ⟨_, rfl⟩
  have h0 := (Below.refl w.heap.size w).alloc (Nat.le_refl _) (.cells #[.int .u8 (kind : Int), .string br, .string ot, .int .u64 (pl : Int), .slice A cs.length c] 26)
  have kb := Blk.new w 26 #[.int .u8 (kind : Int), .string br, .string ot, .int .u64 (pl : Int), .slice A cs.length c]
  obtain ⟨w0, hw0⟩ : ∃ w0, w.alloc (.cells #[.int .u8 (kind : Int), .string br, .string ot, .int .u64 (pl : Int), .slice A cs.length c] 26) = w0 := ⟨_, rfl⟩
  rw [hw0] at h0 kb
  have cg := great_any w0 kind br ot pl A c cs (hb.below h0) hbr hot hcl hsz
  rw [hn] at cg hw0 kb hcl ⊢
  rw [hm] at hl hlc ⊢
  have c0 := kb.cell
  have hdm : (decide ((100 : Int) < (m : Int)) = true) ∨ (decide ((100 : Int) < (m : Int)) = false ∧ m ≤ 100) := by
    by_cases h : 100 < m
    · exact .inl (decide_eq_true (by omega))
    · exact .inr ⟨decide_eq_false (by omega), by omega⟩
  replace hn := Lib.hid hn
  replace hm := Lib.hid hm
  replace hS := Lib.hid hS
  replace hw0 := Lib.hid hw0
  go_enter Tryd.func5, Tryd.ntmps5
  go_wp2_with (first | rw [hw0.out] | fail)
  refine cg.mono ?_
  clear cg c0
  rintro _ w1 ⟨⟨g, rfl, hg⟩, b1⟩
  have hB1 := h0.trans (b1.mono h0.size)
  have k1 := kb.below b1 kb.lt
  cases g
  case true =>
    clear hg hdm
    go_wp2_with fail
    refine (lives_any w1 (hS.out.below hB1)).mono ?_
    rintro _ w2 ⟨rfl, b2⟩
    go_wp2
    go_ret
    exact ⟨rfl, hB1.trans (b2.mono hB1.size)⟩
  rcases hdm with hd | ⟨hd, hm100⟩
  · clear hg
    go_wp2_with fail
    refine (lives_any w1 (hS.out.below hB1)).mono ?_
    rintro _ w2 ⟨rfl, b2⟩
    go_wp2
    go_ret
    exact ⟨rfl, hB1.trans (b2.mono hB1.size)⟩
  have hn2 : n ≤ 2000 := by have := (hg.out rfl).2; have := hn.out; omega
  clear hg
  obtain ⟨M, hM⟩ : ∃ M, chk ⟨kind, br, ot, pl, cs⟩ = M := ⟨_, rfl⟩
  obtain ⟨R, hR⟩ : ∃ R, putR s ⟨kind, br, ot, pl, cs⟩ = R := ⟨_, rfl⟩
  obtain ⟨E, hE⟩ : ∃ E, putE s ⟨kind, br, ot, pl, cs⟩ = E := ⟨_, rfl⟩
  have c1 := k1.cell
  have pp := start w1 (hS.out.below hB1) s hs kind br ot pl A c cs hpl (hb.below hB1) hfit hbr hot (by have := hn.out; omega) R E hR hE
  rw [hn.out] at pp
  have cc := fun W hB => check_any W (hS.out.below hB) kind br ot pl A n c cs hn.out (by omega) (hb.below hB) hbr hot
  rw [hM] at cc
  have hcase : (R = 0 ∧ M = true ∧ s ≠ 0 ∧ E = encOp s ⟨kind, br, ot, pl, cs⟩ ∧ E.length ≤ 65536) ∨ (E = [] ∧ ((R = 1 ∧ ((s : Int) == 0) = true) ∨ (R = 1 ∧ ((s : Int) == 0) = false ∧ M = false) ∨ (R = 3 ∧ decide ((100 : Int) < (n : Int)) = true) ∨ (R = 3 ∧ decide ((100 : Int) < (n : Int)) = false ∧ ((s : Int) == 0) = false ∧ M = true))) := by
    rw [← hR, ← hE, ← hM]
    unfold putR putE
    by_cases h1 : s = 0
    · subst h1; exact .inr ⟨by rw [if_neg (by simp)], .inl ⟨by rw [if_pos (.inr rfl)], rfl⟩⟩
    have hs0 : ((s : Int) == 0) = false := by simp; omega
    by_cases h2 : chk ⟨kind, br, ot, pl, cs⟩ = true
    · by_cases h3 : 65536 < (encOp s ⟨kind, br, ot, pl, cs⟩).length
      · refine .inr ⟨by rw [if_neg (by omega)], ?_⟩
        rw [if_neg (by simp [h2, h1]), if_pos h3]
        by_cases h4 : 100 < n
        · exact .inr (.inr (.inl ⟨rfl, decide_eq_true (by omega)⟩))
        · exact .inr (.inr (.inr ⟨rfl, decide_eq_false (by omega), hs0, h2⟩))
      · refine .inl ⟨?_, h2, h1, ?_⟩
        · rw [if_neg (by simp [h2, h1]), if_neg h3]
        · rw [if_pos ⟨h2, h1, by omega⟩]; exact ⟨rfl, by omega⟩
    · have h2' : chk ⟨kind, br, ot, pl, cs⟩ = false := by simpa using h2
      exact .inr ⟨by rw [if_neg (fun h => h2 h.1)], .inr (.inl ⟨by rw [if_pos (.inl h2')], hs0, h2'⟩)⟩
  replace hM := Lib.hid hM
  replace hR := Lib.hid hR
  replace hE := Lib.hid hE
  rcases hcase with ⟨rfl, rfl, hs0, hEe, hEl⟩ | ⟨rfl, hcase⟩
  case inr =>
    go_wp2_with fail
    refine pp.mono ?_
    clear pp c1
    rintro _ w2 ⟨A2, k2, rfl, hk2, hb2, _, b2⟩
    obtain rfl : k2 = 0 := hk2.symm
    have hB2 := hB1.trans (b2.mono hB1.size)
    have kk := k1.below b2 k1.lt
    have c2' := kk.cell
    clear hb2 hk2
    rcases hcase with ⟨rfl, f1⟩ | ⟨rfl, f1, rfl⟩ | ⟨rfl, f1⟩ | ⟨rfl, f1, f2, rfl⟩
    · go_wp2_with fail
      refine (lives_any w2 (hS.out.below hB2)).mono ?_
      rintro _ w3 ⟨rfl, b3⟩
      go_wp2
      go_ret
      exact ⟨rfl, hB2.trans (b3.mono hB2.size)⟩
    · go_wp2_with fail
      refine (cc w2 hB2).mono ?_
      clear c2'
      rintro _ w3 ⟨rfl, b3⟩
      have hB3 := hB2.trans (b3.mono hB2.size)
      go_wp2_with fail
      refine (lives_any w3 (hS.out.below hB3)).mono ?_
      rintro _ w4 ⟨rfl, b4⟩
      go_wp2
      go_ret
      exact ⟨rfl, hB3.trans (b4.mono hB3.size)⟩
    · go_wp2_with fail
      refine (lives_any w2 (hS.out.below hB2)).mono ?_
      rintro _ w3 ⟨rfl, b3⟩
      go_wp2
      go_ret
      exact ⟨rfl, hB2.trans (b3.mono hB2.size)⟩
    · go_wp2_with fail
      refine (cc w2 hB2).mono ?_
      clear c2'
      rintro _ w3 ⟨rfl, b3⟩
      have hB3 := hB2.trans (b3.mono hB2.size)
      go_wp2_with fail
      refine (lives_any w3 (hS.out.below hB3)).mono ?_
      rintro _ w4 ⟨rfl, b4⟩
      go_wp2
      go_ret
      exact ⟨rfl, hB3.trans (b4.mono hB3.size)⟩
  case inl =>
    have hfitR : Fit ⟨kind, br, ot, pl, cs⟩ := ⟨hki, hpl, hfit⟩
    have hpar : parse E = some (s, ⟨kind, br, ot, pl, cs⟩) := by
      rw [hEe]
      exact parse_enc hM.out hfitR hs0 hs (by have := hn.out; simp only; omega) (by rw [← hEe]; exact hEl)
    have hpre : ∀ i, i < E.length → parse (E.take i) = none := by
      intro i hi
      rcases hq : parse (E.take i) with _ | ⟨s', o'⟩
      · rfl
      · have h2 : parse (E.take i ++ E.drop i) = some (s, ⟨kind, br, ot, pl, cs⟩) := by rw [List.take_append_drop]; exact hpar
        have h3 := parse_prefix hq h2
        have h4 := congrArg List.length h3
        rw [List.length_drop] at h4
        simp at h4
        omega
    have hpost : ∀ y : List UInt8, y ≠ [] → parse (E ++ y) = none := by
      intro y hy
      rcases hq : parse (E ++ y) with _ | ⟨s', o'⟩
      · rfl
      · exact absurd (parse_prefix hpar hq) hy
    replace hpar := Lib.hid hpar
    replace hpre := Lib.hid hpre
    replace hpost := Lib.hid hpost
    replace hEe := Lib.hid hEe
    go_wp2_with fail
    refine pp.mono ?_
    clear pp c1
    rintro _ w2 ⟨A2, k2, rfl, hk2, hb2, _, b2⟩
    have hB2 := hB1.trans (b2.mono hB1.size)
    have kk := k1.below b2 k1.lt
    rw [hk2] at hEl
    replace hk2 := Lib.hid hk2
    have cgt := opGet_any w2 (hS.out.below hB2) A2 k2 k2 E hk2.out (by omega) (Nat.le_refl _) hb2
    rw [hpar.out] at cgt
    go_wp2_with fail
    refine cgt.mono ?_
    clear cgt
    rintro e w3 ⟨b3, A3, k3, cap, rfl, hk3, own3⟩
    simp only at hk3
    obtain rfl : n = k3 := by rw [← hk3]; exact hn.out.symm
    have hcs3 : Cs w3 A3 cs := by unfold Cs; rw [hk3]; exact Rd.of_own own3
    clear own3 hk3
    obtain ⟨W4, hW4⟩ : ∃ W, w3.alloc (.cells #[.int .u8 (kind : Int), .string br, .string ot, .int .u64 (pl : Int), .slice A3 n n] 26) = W := ⟨_, rfl⟩
    have b4 : Below w3.heap.size w3 W4 := by rw [← hW4]; exact (Below.refl _ _).alloc (Nat.le_refl _) _
    have k4 : Blk W4 w3.heap.size 26 #[.int .u8 (kind : Int), .string br, .string ot, .int .u64 (pl : Int), .slice A3 n n] := by rw [← hW4]; exact Blk.new w3 _ _
    have hB3 := hB2.trans (b3.mono hB2.size)
    have hB4 := hB3.trans (b4.mono hB3.size)
    have kk4 := (kk.below b3 kk.lt).below b4 (by have := kk.lt; have := b3.size; omega)
    have hb4 := (hb2.below b3).below b4
    have c4 := k4.cell
    have c4' := kk4.cell
    replace hW4 := Lib.hid hW4
    have d65 : decide ((65536 : Int) < (k2 : Int)) = false := decide_eq_false (by omega)
    go_wp2_with (first | rw [hW4.out] | fail)
    refine (sameOp_yes W4 kind br ot pl A3 A n n c cs hn.out (by omega) (hcs3.below b4) (hb.below hB4)).mono ?_
    rintro _ w5 ⟨rfl, b5⟩
    have hB5 := hB4.trans (b5.mono hB4.size)
    have hb5 := hb4.below b5
    clear c4 c4' kk kk4 k4 hb4
    go_wp2_with fail
    have hEpos : 0 < k2 := by
      rcases Nat.eq_zero_or_pos k2 with h | h
      · have h2 := hk2.out
        rw [h] at h2
        have h3 := hpar.out
        rw [List.eq_nil_of_length_eq_zero h2] at h3
        cases h3
      · exact h
    obtain ⟨q, hq⟩ : ∃ q, k2 = q + 1 := ⟨k2 - 1, by omega⟩
    have rq : IntKind.i64.wrap ((k2 : Int) - 1) = (q : Int) := by rw [IntWalk.i64_in _ (by omega)]; omega
    have hqk : q < k2 := by omega
    have fm := hm.out
    have dm : ((m : Int) == 0) = decide (m = 0) := by by_cases h : m = 0 <;> simp [h]
    clear fm
    replace hq := Lib.hid hq
    go_loopw [12] (fun i wr => ∃ k : Nat, k ≤ k2 ∧ i = .int .i64 (k : Int) ∧ Below w5.heap.size w5 wr) (fun i _ => k2 - (intOf i).toNat)
    case atStart => exact ⟨0, by omega, rfl, Below.refl _ _⟩
    case round =>
      obtain ⟨k, hk, rfl, hBr⟩ := hrel
      have hBw := hB5.trans (hBr.mono hB5.size)
      have hbr' := hb5.below hBr
      by_cases hgo : k < k2 ∧ k < 300
      · have e1 : decide ((k : Int) < (k2 : Int)) = true := decide_eq_true (by omega)
        have e2 : decide ((k : Int) < 300) = true := decide_eq_true (by omega)
        have hkk : k < k2 := hgo.1
        clear hgo
        go_wp2_with fail
        refine (no_yes wr (hS.out.below hBw) A2 k k2 (E.take k) (by rw [List.length_take, hk2.out]; omega) (by omega) (by omega) (hbr'.take k) (hpre.out k (by rw [hk2.out]; omega))).mono ?_
        rintro _ w6 ⟨rfl, b6⟩
        go_wp2
        go_roundw
        case rel => exact ⟨k + 1, by omega, by go_num, hBr.trans (b6.mono hBr.size)⟩
        case measure => simp [intOf]; omega
      · have he : (decide (k < k2) = true ∧ decide ((k : Int) < 300) = false) ∨ decide (k < k2) = false := by
          by_cases h : k < k2
          · exact .inl ⟨decide_eq_true h, decide_eq_false (by omega)⟩
          · exact .inr (decide_eq_false h)
        clear hgo
        rcases he with ⟨e1, e2⟩ | e1
        all_goals
          have rq2 : (k2 : Int) - 1 = (q : Int) := by have := hq.out; omega
          go_wp2_with fail
          clear rq rq2
          refine (no_yes wr (hS.out.below hBw) A2 q k2 (E.take q) (by rw [List.length_take, hk2.out]; omega) (by omega) (by omega) (hbr'.take q) (hpre.out q (by rw [hk2.out]; omega))).mono ?_
          rintro _ w6 ⟨rfl, b6⟩
          have hB6 := hBw.trans (b6.mono hBw.size)
          have hb6 := hbr'.below b6
          by_cases hm0 : m = 0
          · have dm0 : decide (m = 0) = true := decide_eq_true hm0
            replace hm0 := Lib.hid hm0
            go_wp2_with fail
            refine (lives_any w6 (hS.out.below hB6)).mono ?_
            rintro _ w7 ⟨rfl, b7⟩
            go_wp2
            go_ret
            exact ⟨rfl, hB6.trans (b7.mono hB6.size)⟩
          · have dm0 : decide (m = 0) = false := decide_eq_false hm0
            replace hm0 := Lib.hid hm0
            have cE : Rd w6 1 A2 k2 (bvs E) := by have h := hb6; unfold Bs at h; rw [hk2.out] at h; exact h
            have cL : Rd w6 1 B m (bvs l) := by have h := hlb.below hB6; unfold Bs at h; rw [hm.out] at h; exact h
            go_wp2_with (first
              | (at_builtin; refine wpList_app_g w6 rfl _ _ rfl Tryd.underlying30 info_u8 rfl (by omega) (World.ownsRow_nil w6 w6.heap.size _ _) rfl A2 k2 k2 (news := bvs E) cE rfl (bvs_one E) (by unfold maxLen; omega) (by omega) (Nat.le_refl _) ?_; intro v7 w7 hown7 hgrow7 hlie7; have hB7 : Below w6.heap.size w6 w7 := (Below.refl _ _).grown hgrow7 (Nat.le_refl _) (fun j hj => by simp [Value.ownBlock] at hj))
              | (at_builtin; refine wpList_app_g w7 rfl _ _ rfl Tryd.underlying30 info_u8 rfl (by omega) hown7 rfl B m c2 (news := bvs l) (cL.below hB7) rfl (bvs_one l) (by unfold maxLen; omega) (by omega) hB7.size ?_; intro v8 w8 hown8 hgrow8 hlie8; have hB8 := below_app hB7 hown7 (Nat.le_refl _) hB7.size hgrow8; obtain ⟨A8, k8, rfl⟩ := own_slice hown8))
            rw [Nat.zero_add, List.nil_append] at hown7
            rw [Nat.zero_add, List.nil_append, ← bvs_append] at hown8
            have e8 := (Bs.of_own hown8).2
            have hk8 := (own_cap hown8).1
            have b8 := hB6.trans (hB8.mono hB6.size)
            have p8 := no_yes w8 (hS.out.below b8) A8 (k2 + m) k8 (E ++ l) (by rw [List.length_append, hk2.out, hm.out]) (by omega) hk8 e8 (hpost.out l (by intro h; have := hm.out; rw [h] at this; exact hm0.out this.symm))
            clear e8 hown8 hown7 hgrow7 hgrow8 hlie7 hlie8 hB7 hB8
            go_wp2_with fail
            refine p8.mono ?_
            clear p8
            rintro _ w9 ⟨rfl, b9⟩
            have hB9 := b8.trans (b9.mono b8.size)
            go_wp2_with fail
            refine (lives_any w9 (hS.out.below hB9)).mono ?_
            rintro _ w10 ⟨rfl, b10⟩
            go_wp2
            go_ret
            exact ⟨rfl, hB9.trans (b10.mono hB9.size)⟩

theorem walk (w : World) (hS : Sets w) (s : Nat) (hs : s < 18446744073709551616) (kind : Nat) (br ot : ByteArray) (pl : Nat) (A : Option Addr) (c : Nat) (cs : List Ch) (hki : kind < 256) (hpl : pl < 18446744073709551616) (hb : Cs w A cs) (hlc : cs.length ≤ c) (hfit : ∀ y ∈ cs, ChFit y)
    (hc : br.size ≤ reachBytes ∧ ot.size ≤ reachBytes ∧ (∀ y ∈ cs, y.k.size ≤ reachBytes ∧ y.v.size ≤ reachBytes) ∧ cs.length ≤ reachBytes)
    (B : Option Addr) (c2 : Nat) (l : List UInt8) (hl : l.length ≤ 140737488355328) (hlb : Bs w B l) (hlc2 : l.length ≤ c2) (hc2 : c2 ≤ 140737488355328) :
    Calls Tryd.prog 5 #[.int .u64 (s : Int), .agg #[.int .u8 (kind : Int), .string br, .string ot, .int .u64 (pl : Int), .slice A cs.length c], .slice B l.length c2] w fun e w' => e = .returned (.bool true) ∧ Below w.heap.size w w' := by
  have hr := reachBytes_lt
  obtain ⟨h1, h2, h3, h4⟩ := hc
  exact walk0 w hS s hs kind br ot pl A c cs hpl hb hfit (by omega) (by omega) (by omega) (fun y hy => by have := h3 y hy; omega) hki B c2 l hl hlb hlc2 hc2

/-! ### from the walk to the statement (by tail.py) -/
set_option maxRecDepth 100000 in
theorem door_met (os : Os) (args : Array Value) : laidMetH Tryd.prog Rows.opsBackRow.laid ((World.doorLaid Tryd.prog 29 os).forCall (fun _ _ => 0) ⟨#[], args, []⟩).memory :=
  laidMetH_of_parts3 (fuel := 8) (laidMet_of_run' 8 (by kernel_rfl) (by kernel_rfl)) (by kernel_rfl) (by kernel_rfl)
set_option maxRecDepth 100000 in
theorem lifted (os : Os) (started : os.Started) (H : Type) (enc : TypeId × Value → H) :
    ReturnsInHanded {} Tryd.checked os 5 .any (fun w args => (Rows.opsBackSpec.pre enc Tryd.prog Tryd.f5 [] false w args ∧ laidMetH Tryd.prog Rows.opsBackRow.laid w) ∧ sizedMet enc Tryd.prog Tryd.f5 (OpenSpec.ofChange Rows.opsBackSpec) false w args) (Rows.opsBackSpec.post enc Tryd.prog Tryd.f5 false true false false) := by
  refine lifted_of_and (C := Tryd.checked) (tb := 4) (n := 3) (X := fun w _ => laidMetH Tryd.prog Rows.opsBackRow.laid w) (fun _ _ _ hh h => h.of_heap hh) (by kernel_rfl) started (by kernel_rfl) Tryd.func5 (by kernel_rfl) (by kernel_rfl) rfl (by kernel_rfl) Tryd.underlying4 (by kernel_rfl)
    (fun ds hd => by match ds, hd with | [d1, d2, d3], _ => exact ⟨rfl, rfl, rfl⟩)
    (ChangeSpec.witness_shaped (enc := enc) (C := Tryd.checked) (os := os) (X := fun w _ => laidMetH Tryd.prog Rows.opsBackRow.laid w) false (World.doorLaid Tryd.prog 29 os) #[.int .u64 0, .agg #[.int .u8 0, .string ByteArray.empty, .string ByteArray.empty, .int .u64 0, .slice none 0 0], .slice none 0 0] 8 rfl (World.shaped_of_RefB (by kernel_rfl) (by kernel_rfl)) (by kernel_rfl) (by kernel_rfl) (by kernel_rfl) (door_met os _)) ?_
  intro W base args ds before hval hA hsz hX
  rw [Tryd.params5] at hA hval hsz
  obtain ⟨v0, vs0, d0, ds0, p0, q0, rfl, rfl, rfl, h0, r0⟩ := trodAll_cons hA
  obtain ⟨v1, vs1, d1, ds1, p1, q1, rfl, rfl, rfl, h1, r1⟩ := trodAll_cons r0
  obtain ⟨v2, vs2, d2, ds2, p2, q2, rfl, rfl, rfl, h2, r2⟩ := trodAll_cons r1
  obtain ⟨rfl, rfl, rfl⟩ := trodAll_nil r2
  obtain ⟨x0, rfl, hx0⟩ := open_u64 Tryd.underlying22 (hval 0 _ _ rfl rfl) h0
  obtain ⟨ki1, br1, ot1, pl1, A1, c1, ls1, rfl, hki1, hpl1, hb1, hlc1, hfit1, hcap1⟩ := open_op (hval 1 _ _ rfl rfl) h1
  have hc1 := hcap1 hsz 1 rfl rfl
  obtain ⟨A2, c2, l2, rfl, hb2, hlc2, _, hcap2⟩ := open_bytes Tryd.underlying30 Tryd.underlying5 (by kernel_rfl) (by kernel_rfl) (hval 2 _ _ rfl rfl) h2
  have hc2 := hcap2 hsz 2 rfl rfl
  exact walk W (sets_of hX) x0 hx0 ki1 br1 ot1 pl1 A1 c1 ls1 hki1 hpl1 hb1 hlc1 hfit1 hc1 A2 c2 l2 (by have := reachBytes_lt; omega) hb2 hlc2 (by have := reachBytes_lt; omega)

theorem over : Rows.opsBackRow.holds Tryd.pinned (OpenSpec.ofChange Rows.opsBackSpec) :=
  OpenClaim.holds_of_wide 5 Tryd.f5 rfl rfl rfl rfl rfl rfl rfl ⟨rfl, rfl, rfl, rfl, rfl⟩ rfl rfl rfl rfl rfl (by kernel_rfl) Tryd.func5 (by kernel_rfl)
    (of_decide_eq_true (by kernel_rfl)) (by unfold Func.isWrapper; first | (rw [if_pos (by decide +kernel)]; kernel_rfl) | (rw [if_neg (by decide +kernel)]; exact ⟨rfl, rfl⟩))
    (fun os started H enc _ => lifted os started H enc)

theorem proved : Rows.OpsBackCardSaid :=
  Claim7.holds_tied_plain_at .later [] [.data] true (true, "46d5cacd4782c602f2b9df7395970fea9243359bc8c670c610b31bfbc6d9cf21") true
    over (fun _ h => by cases h) (by kernel_rfl) (fun _ h => by cases h) opsBack_row_tie rfl ⟨rfl, rfl⟩ (by kernel_rfl) rfl
    (fun f fn hf hfn => by
      obtain rfl : f = 5 := Option.some.inj ((show Tryd.prog.funcNamed "herbarium/herbariumlaw07.OpsBack" = some 5 by kernel_rfl).symm.trans hf) |>.symm
      obtain rfl : fn = Tryd.f5 := (Option.some.inj (Tryd.func5.symm.trans hfn)).symm
      exact ⟨by kernel_rfl, fun j t ht => by
        have hall : (Tryd.f5.params.toList.all fun u => !Tryd.prog.wantsStandIn u) = true := by kernel_rfl
        have hm : t ∈ Tryd.f5.params.toList := Array.mem_toList_iff.2 (Array.mem_of_getElem? ht)
        exact (show Tryd.prog.wantsStandIn t = false by simpa using List.all_eq_true.1 hall t hm)⟩)
    (by kernel_rfl)
end Go.Proofs.YtccbldlnfaiphaaDoor.lawOpsBack
