/- The walks of container/heap at lists that wait. -/
import Derived.Test.YtnlmchbigpjamaaJnOps
set_option linter.unusedSimpArgs false
set_option linter.unusedVariables false
namespace Herb
open Go Go.RowKit
/-- A method with a value receiver, called through an interface that holds a pointer. -/
theorem run_value_method {P : Program} {fuel t e : Nat} {nm : String} {f : Nat} (hl : ((P.info? t).bind (fun i => i.methods.find? (·.name == nm))).map (fun m => (m.path, m.func)) = some (#[], some (f, false))) (hu : P.underlying t = some (.pointer e)) {d : TypeDesc} (he : P.underlying e = some d) (hd : d.isRow = false)
    (W : World) (q : Nat) (v : Value) (c : W.cell? ⟨q, 0, none⟩ = some v) : (method (fuel + 1) t (.pointer (some ⟨q, 0, none⟩)) nm).run P W = .ok (f, v) W := by
  obtain ⟨m, hm, hmm⟩ := Option.map_eq_some_iff.1 hl
  obtain ⟨i, hi, hf⟩ := Option.bind_eq_some_iff.1 hm
  injection hmm with hp hfn
  have hlv : (loadVar e ⟨q, 0, none⟩).run P W = .ok v W := by
    cases d <;> simp [TypeDesc.isRow] at hd <;> simp [loadVar, isAgg, run_underlying he, c, go_sem]
  have ht : (typeInfo t).run P W = .ok i W := by simp [typeInfo, hi]
  have hr : ∀ s, (receiverAt t (.val (.pointer (some ⟨q, 0, none⟩))) false (some s)).run P W = .ok v W := fun s => by
    unfold receiverAt
    rw [Sem.run_bind, run_underlying hu W]
    have hw : Builtin.ssaWrapNilChk_ #[t] t #[.pointer (some ⟨q, 0, none⟩), strVal "", strVal s] = pure (.pointer (some ⟨q, 0, none⟩)) := rfl
    simp only [Result.andThen_ok, Place.get, hw, Sem.run_bind, Sem.run_pure, asAddr, hlv]
  unfold method
  rw [Sem.run_bind, ht]
  simp only [Result.andThen_ok, hf, hp, hfn, follow, Sem.run_bind, Sem.run_pure]
  rw [if_pos (by rfl), hr]
  rfl
end Herb
namespace Go.Proofs.Ytnlmchbigpjamaa
open Go Go.RowKit Herb Herb.Jn
theorem lists_less : ((Try.prog.info? 59).bind (fun i => i.methods.find? (·.name == "Less"))).map (fun m => (m.path, m.func)) = some (#[], some (60, false)) := by kernel_rfl
theorem lists_swap : ((Try.prog.info? 59).bind (fun i => i.methods.find? (·.name == "Swap"))).map (fun m => (m.path, m.func)) = some (#[], some (61, false)) := by kernel_rfl
theorem lists_len : ((Try.prog.info? 59).bind (fun i => i.methods.find? (·.name == "Len"))).map (fun m => (m.path, m.func)) = some (#[], some (59, false)) := by kernel_rfl
section
variable {W : World} {q : Nat} {v : Value} (h : Blk W q 56 #[v])
include h
theorem m_less (fuel : Nat) : (method (fuel + 1) 59 (.pointer (some ⟨q, 0, none⟩)) "Less").run Try.prog W = .ok (60, v) W := run_value_method lists_less Try.underlying59 Try.underlying56 rfl W q v (h.cell 0)
theorem m_swap (fuel : Nat) : (method (fuel + 1) 59 (.pointer (some ⟨q, 0, none⟩)) "Swap").run Try.prog W = .ok (61, v) W := run_value_method lists_swap Try.underlying59 Try.underlying56 rfl W q v (h.cell 0)
theorem m_len (fuel : Nat) : (method (fuel + 1) 59 (.pointer (some ⟨q, 0, none⟩)) "Len").run Try.prog W = .ok (59, v) W := run_value_method lists_len Try.underlying59 Try.underlying56 rfl W q v (h.cell 0)
end
abbrev hpV (q : Nat) : Value := .iface 59 (.pointer (some ⟨q, 0, none⟩))
set_option maxRecDepth 100000 in
set_option maxHeartbeats 1600000 in
theorem up_any (w : World) (q g c : Nat) (l : List En) (n : Nat) (hn : l.length = n) (hH : HpAt w q g c l) (hn63 : n ≤ 1000000) (hf : ∀ k, k < n → (at_ l k).fs ≠ []) (j : Nat) (hj : j < n) (hU : Up l j n) :
    Calls Try.prog 33 #[hpV q, .int .i64 (j : Int)] w fun e w' => (∃ v, e = .returned v) ∧ ∃ l', l'.Perm l ∧ IsHeap l' n ∧ HpAt w' q g c l' ∧ KeepBut (fun b => b = g) w w' := by
  replace hn := Lib.hid hn
  replace hf := Lib.hid hf
  go_enter Try.func33, Try.ntmps33
  go_wp2
  go_loopw [1] (fun j wr => ∃ (l' : List En) (k : Nat), k < n ∧ j = .int .i64 (k : Int) ∧ l'.Perm l ∧ Up l' k n ∧ HpAt wr q g c l' ∧ KeepBut (fun b => b = g) w wr) (fun j _ => (intOf j).toNat)
  case atStart => exact ⟨l, j, hj, rfl, List.Perm.refl _, hU, hH, KeepBut.refl _⟩
  case round =>
    obtain ⟨l', k, hk, rfl, hp, hu, hh, hkb⟩ := hrel
    have hl' : l'.length = n := hp.length_eq.trans hn.out
    have hf' : ∀ k, k < n → (at_ l' k).fs ≠ [] := fun k hk => by
      have hm : at_ l' k ∈ l := by rw [at_get (by omega)]; exact hp.subset (List.getElem_mem _)
      obtain ⟨i, hi, he⟩ := List.mem_iff_getElem.1 hm
      have := hf.out i (by rw [← hn.out]; exact hi)
      rw [at_get hi, he] at this
      exact this
    rcases Nat.eq_zero_or_pos k with rfl | h0
    · have hz : IsHeap l' n := hu.done (fun h => absurd h (by omega))
      go_wp2
      go_end0
      exact ⟨⟨_, rfl⟩, l', hp, hz, hh, hkb⟩
    · obtain ⟨p, hpp⟩ : ∃ p, par k = p := ⟨_, rfl⟩
      have hpk : p < k := by rw [← hpp]; exact par_lt h0
      have hdiv : ((k : Int) - 1) / 2 = (p : Int) := by rw [← hpp]; unfold par; omega
      have hne : ((p : Int) == (k : Int)) = false := by simp; omega
      have hlen : l'.length = n := hl'
      have hb := hh.box
      rw [hlen] at hb
      have cb := hb.cell
      have pl := less_any wr q g c l' n hl' hh k p hk (by omega) hn63 (hf' k hk) (hf' p (by omega))
      have hk1 : (1 : Int) ≤ (k : Int) := by omega
      replace pl := Lib.hid pl
      replace hl' := Lib.hid hl'
      clear hlen hf'
      have ml := m_less hb 202
      go_wp2_with fail
      refine pl.out.mono ?_
      clear pl
      rintro _ w2 ⟨rfl, b2⟩
      have hh2 := hh.below b2
      have hb2 := hb.below b2 hb.lt
      have ms := m_swap hb2 202
      have ps := swap_any w2 q g c l' n hl'.out hh2 p k (by omega) hk hn63
      have hk2 := hkb.trans (KeepBut.of_below b2)
      replace ps := Lib.hid ps
      clear hb cb ml hb2
      by_cases hlt : cmpE (at_ l' k) (at_ l' p) < 0
      · have d1 : decide (cmpE (at_ l' k) (at_ l' p) < 0) = true := decide_eq_true hlt
        have hst := hu.step (by rw [hl'.out]; exact Nat.le_refl _) hk h0 (by rw [hpp]; exact leE_of_lt hlt)
        rw [hpp] at hst
        replace hst := Lib.hid hst
        go_wp2_with fail
        refine ps.out.mono ?_
        rintro _ w3 ⟨⟨v, rfl⟩, hh3, k3⟩
        go_wp2
        go_roundw
        case rel => exact ⟨sw l' p k, p, by omega, rfl, (sw_perm (by rw [hl'.out]; omega) (by rw [hl'.out]; omega)).trans hp, hst.out, hh3, hk2.trans k3⟩
        case measure => simp [intOf]; omega
      · have d1 : decide (cmpE (at_ l' k) (at_ l' p) < 0) = false := decide_eq_false hlt
        have hz : IsHeap l' n := hu.done (fun _ => by rw [hpp]; exact leE_of_not hlt)
        go_wp2
        go_end0
        exact ⟨⟨_, rfl⟩, l', hp, hz, hh2, hk2⟩
set_option maxRecDepth 100000 in
set_option maxHeartbeats 3200000 in
theorem down_any (w : World) (q g c : Nat) (l : List En) (m : Nat) (hm : l.length = m) (hH : HpAt w q g c l) (hm63 : m ≤ 1000000) (n : Nat) (hnm : n ≤ m) (hf : ∀ k, k < n → (at_ l k).fs ≠ []) (hD : Dn l 0 n) :
    Calls Try.prog 40 #[hpV q, .int .i64 0, .int .i64 (n : Int)] w fun e w' => (∃ b : Bool, e = .returned (.bool b)) ∧ ∃ l', l'.Perm l ∧ IsHeap l' n ∧ (∀ k, n ≤ k → at_ l' k = at_ l k) ∧ HpAt w' q g c l' ∧ KeepBut (fun b => b = g) w w' := by
  replace hm := Lib.hid hm
  replace hf := Lib.hid hf
  go_enter Try.func40, Try.ntmps40
  go_wp2
  go_loopw [7] (fun i wr => ∃ (l' : List En) (k : Nat), (k < n ∨ k = 0) ∧ i = .int .i64 (k : Int) ∧ l'.Perm l ∧ Dn l' k n ∧ Hid (∀ k, n ≤ k → at_ l' k = at_ l k) ∧ HpAt wr q g c l' ∧ KeepBut (fun b => b = g) w wr) (fun i _ => n - (intOf i).toNat)
  case atStart => exact ⟨l, 0, by omega, rfl, List.Perm.refl _, hD, Lib.hid (fun _ _ => rfl), hH, KeepBut.refl _⟩
  case round =>
    obtain ⟨l', i, hi, rfl, hp, hd, hsame, hh, hkb⟩ := hrel
    have hl' : l'.length = m := hp.length_eq.trans hm.out
    have hf' : ∀ k, k < n → (at_ l' k).fs ≠ [] := fun k hk => by
      have hperm : (l'.take n).Perm (l.take n) := by
        have h1 : l'.drop n = l.drop n := List.ext_getElem? fun j => by
          have e := hsame.out (n + j) (by omega)
          rw [List.getElem?_drop, List.getElem?_drop]
          have hlm := hm.out
          by_cases hj : n + j < m
          · rw [at_get (by omega), at_get (by omega)] at e
            rw [List.getElem?_eq_getElem (by omega), List.getElem?_eq_getElem (by omega), e]
          · rw [List.getElem?_eq_none (by omega), List.getElem?_eq_none (by omega)]
        have h2 := hp
        rw [← List.take_append_drop n l', ← List.take_append_drop n l, h1] at h2
        exact (List.perm_append_right_iff _).1 h2
      have hmem : at_ l' k ∈ l'.take n := by
        rw [at_get (by omega)]
        exact List.mem_take_iff_getElem.2 ⟨k, by omega, rfl⟩
      obtain ⟨j, hj, he⟩ := List.mem_take_iff_getElem.1 (hperm.subset hmem)
      have := hf.out j (by omega)
      rw [at_get (by omega), he] at this
      exact this
    replace hl' := Lib.hid hl'
    replace hf' := Lib.hid hf'
    have hi1000 : i ≤ 1000000 := by omega
    by_cases hA : n ≤ 2 * i + 1
    · have dA : decide ((n : Int) ≤ 2 * (i : Int) + 1) = true := decide_eq_true (by omega)
      have hz : IsHeap l' n := hd.done (fun k h0 hk hpk => by unfold par at hpk; omega)
      replace hz := Lib.hid hz
      go_wp2
      go_ret
      exact ⟨⟨_, rfl⟩, l', hp, hz.out, hsame.out, hh, hkb⟩
    · obtain ⟨j, hj⟩ : ∃ j, 2 * i + 1 = j := ⟨_, rfl⟩
      obtain ⟨k, hk⟩ : ∃ k, j + 1 = k := ⟨_, rfl⟩
      have ej : 2 * (i : Int) + 1 = (j : Int) := by omega
      have ek : (j : Int) + 1 = (k : Int) := by omega
      have dA : decide (n ≤ j) = false := decide_eq_false (by omega)
      have hjn : j < n := by omega
      have ch : ∀ x, 0 < x → par x = i → x = j ∨ x = k := fun x h0 hp => by unfold par at hp; omega
      replace ch := Lib.hid ch
      by_cases hB : n ≤ k
      · have dB : decide (k < n) = false := decide_eq_false (by omega)
        have hsm : ∀ x, 0 < x → x < n → par x = i → leE (at_ l' j) (at_ l' x) := fun x h0 hx hp => by
          rcases ch.out x h0 hp with rfl | rfl
          · exact leE_refl _
          · omega
        have hbT := hh.box
        rw [hl'.out] at hbT
        have mlT := m_less hbT 202
        have plT := less_any wr q g c l' m hl'.out hh j i (by omega) (by omega) hm63 (hf'.out _ (by omega)) (hf'.out _ (by omega))
        have hkT := hkb
        have hhT := hh
        replace plT := Lib.hid plT
        replace hsm := Lib.hid hsm
        clear hh
        go_wp2_with fail
        refine plT.out.mono ?_
        clear plT
        rintro _ w4 ⟨rfl, b4⟩
        have hh4 := hhT.below b4
        have hb4 := hbT.below b4 hbT.lt
        have ms := m_swap hb4 202
        have ps := swap_any w4 q g c l' m hl'.out hh4 i j (by omega) (by omega) hm63
        have hk4 := hkT.trans (KeepBut.of_below b4)
        replace ps := Lib.hid ps
        clear mlT hbT hb4 hhT
        by_cases hlt : cmpE (at_ l' j) (at_ l' i) < 0
        · have d1 : decide (cmpE (at_ l' j) (at_ l' i) < 0) = true := decide_eq_true hlt
          have hst := hd.step (by rw [hl'.out]; exact hnm) (by omega) (by omega) (by omega) (by unfold par; omega) hsm.out (leE_of_lt hlt)
          replace hst := Lib.hid hst
          go_wp2_with fail
          refine ps.out.mono ?_
          rintro _ w5 ⟨⟨v, rfl⟩, hh5, k5⟩
          clear hkb
          go_wp2
          go_roundw
          case rel =>
            refine ⟨sw l' i j, j, by omega, rfl, (sw_perm (by rw [hl'.out]; omega) (by rw [hl'.out]; omega)).trans hp, hst.out, Lib.hid (fun k hk => ?_), hh5, hk4.trans k5⟩
            rw [sw_at (by rw [hl'.out]; omega) (by rw [hl'.out]; omega), if_neg (by omega), if_neg (by omega)]
            exact hsame.out k hk
          case measure => simp [intOf]; omega
        · have d1 : decide (cmpE (at_ l' j) (at_ l' i) < 0) = false := decide_eq_false hlt
          have hz : IsHeap l' n := hd.done (fun k h0 hk hpk => leE_trans (leE_of_not hlt) (hsm.out k h0 hk hpk))
          replace hz := Lib.hid hz
          go_wp2
          go_ret
          exact ⟨⟨_, rfl⟩, l', hp, hz.out, hsame.out, hh4, hk4⟩
      · have dB : decide (k < n) = true := decide_eq_true (by omega)
        have hbS := hh.box
        rw [hl'.out] at hbS
        have mlS := m_less hbS 202
        have plS := less_any wr q g c l' m hl'.out hh k j (by omega) (by omega) hm63 (hf'.out _ (by omega)) (hf'.out _ (by omega))
        replace plS := Lib.hid plS
        go_wp2_with fail
        refine plS.out.mono ?_
        clear plS
        rintro _ w2 ⟨rfl, b2⟩
        have hh2 := hh.below b2
        have hk2 := hkb.trans (KeepBut.of_below b2)
        clear hh mlS hbS
        by_cases hls : cmpE (at_ l' k) (at_ l' j) < 0
        · have d0 : decide (cmpE (at_ l' k) (at_ l' j) < 0) = true := decide_eq_true hls
          have hsm : ∀ x, 0 < x → x < n → par x = i → leE (at_ l' k) (at_ l' x) := fun x h0 hx hp => by
            rcases ch.out x h0 hp with rfl | rfl
            · exact leE_of_lt hls
            · exact leE_refl _
          have hbT := hh2.box
          rw [hl'.out] at hbT
          have mlT := m_less hbT 202
          have plT := less_any w2 q g c l' m hl'.out hh2 k i (by omega) (by omega) hm63 (hf'.out _ (by omega)) (hf'.out _ (by omega))
          have hkT := hk2
          have hhT := hh2
          replace plT := Lib.hid plT
          replace hsm := Lib.hid hsm
          clear hh2
          go_wp2_with fail
          refine plT.out.mono ?_
          clear plT
          rintro _ w4 ⟨rfl, b4⟩
          have hh4 := hhT.below b4
          have hb4 := hbT.below b4 hbT.lt
          have ms := m_swap hb4 202
          have ps := swap_any w4 q g c l' m hl'.out hh4 i k (by omega) (by omega) hm63
          have hk4 := hkT.trans (KeepBut.of_below b4)
          replace ps := Lib.hid ps
          clear mlT hbT hb4 hhT
          by_cases hlt : cmpE (at_ l' k) (at_ l' i) < 0
          · have d1 : decide (cmpE (at_ l' k) (at_ l' i) < 0) = true := decide_eq_true hlt
            have hst := hd.step (by rw [hl'.out]; exact hnm) (by omega) (by omega) (by omega) (by unfold par; omega) hsm.out (leE_of_lt hlt)
            replace hst := Lib.hid hst
            go_wp2_with fail
            refine ps.out.mono ?_
            rintro _ w5 ⟨⟨v, rfl⟩, hh5, k5⟩
            clear hkb
            go_wp2
            go_roundw
            case rel =>
              refine ⟨sw l' i k, k, by omega, rfl, (sw_perm (by rw [hl'.out]; omega) (by rw [hl'.out]; omega)).trans hp, hst.out, Lib.hid (fun k hk => ?_), hh5, hk4.trans k5⟩
              rw [sw_at (by rw [hl'.out]; omega) (by rw [hl'.out]; omega), if_neg (by omega), if_neg (by omega)]
              exact hsame.out k hk
            case measure => simp [intOf]; omega
          · have d1 : decide (cmpE (at_ l' k) (at_ l' i) < 0) = false := decide_eq_false hlt
            have hz : IsHeap l' n := hd.done (fun k h0 hk hpk => leE_trans (leE_of_not hlt) (hsm.out k h0 hk hpk))
            replace hz := Lib.hid hz
            go_wp2
            go_ret
            exact ⟨⟨_, rfl⟩, l', hp, hz.out, hsame.out, hh4, hk4⟩
        · have d0 : decide (cmpE (at_ l' k) (at_ l' j) < 0) = false := decide_eq_false hls
          have hsm : ∀ x, 0 < x → x < n → par x = i → leE (at_ l' j) (at_ l' x) := fun x h0 hx hp => by
            rcases ch.out x h0 hp with rfl | rfl
            · exact leE_refl _
            · exact leE_of_not hls
          have hbT := hh2.box
          rw [hl'.out] at hbT
          have mlT := m_less hbT 202
          have plT := less_any w2 q g c l' m hl'.out hh2 j i (by omega) (by omega) hm63 (hf'.out _ (by omega)) (hf'.out _ (by omega))
          have hkT := hk2
          have hhT := hh2
          replace plT := Lib.hid plT
          replace hsm := Lib.hid hsm
          clear hh2
          go_wp2_with fail
          refine plT.out.mono ?_
          clear plT
          rintro _ w4 ⟨rfl, b4⟩
          have hh4 := hhT.below b4
          have hb4 := hbT.below b4 hbT.lt
          have ms := m_swap hb4 202
          have ps := swap_any w4 q g c l' m hl'.out hh4 i j (by omega) (by omega) hm63
          have hk4 := hkT.trans (KeepBut.of_below b4)
          replace ps := Lib.hid ps
          clear mlT hbT hb4 hhT
          by_cases hlt : cmpE (at_ l' j) (at_ l' i) < 0
          · have d1 : decide (cmpE (at_ l' j) (at_ l' i) < 0) = true := decide_eq_true hlt
            have hst := hd.step (by rw [hl'.out]; exact hnm) (by omega) (by omega) (by omega) (by unfold par; omega) hsm.out (leE_of_lt hlt)
            replace hst := Lib.hid hst
            go_wp2_with fail
            refine ps.out.mono ?_
            rintro _ w5 ⟨⟨v, rfl⟩, hh5, k5⟩
            clear hkb
            go_wp2
            go_roundw
            case rel =>
              refine ⟨sw l' i j, j, by omega, rfl, (sw_perm (by rw [hl'.out]; omega) (by rw [hl'.out]; omega)).trans hp, hst.out, Lib.hid (fun k hk => ?_), hh5, hk4.trans k5⟩
              rw [sw_at (by rw [hl'.out]; omega) (by rw [hl'.out]; omega), if_neg (by omega), if_neg (by omega)]
              exact hsame.out k hk
            case measure => simp [intOf]; omega
          · have d1 : decide (cmpE (at_ l' j) (at_ l' i) < 0) = false := decide_eq_false hlt
            have hz : IsHeap l' n := hd.done (fun k h0 hk hpk => leE_trans (leE_of_not hlt) (hsm.out k h0 hk hpk))
            replace hz := Lib.hid hz
            go_wp2
            go_ret
            exact ⟨⟨_, rfl⟩, l', hp, hz.out, hsame.out, hh4, hk4⟩
end Go.Proofs.Ytnlmchbigpjamaa
