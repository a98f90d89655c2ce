/- From any key on all are told that do not stand ahead of it; the others stand ahead: both together are all: for every input, no condition. -/
import Derived.Test.YtkijcphkmikdbaaSkBuild
import Derived.Test.YtkijcphkmikdbaaSkLives
import Derived.Deep.RegionHeld3
import Derived.Deep.RegionWith
set_option linter.unusedSimpArgs false
set_option linter.unusedVariables false
namespace Go.Proofs.Ytkijcphkmikdbaa.lawSkipsFrom
open Go Go.RowKit Herb Go.ChangeShapes Go.WideShapes Go.ChangeAt

set_option maxRecDepth 100000 in
set_option maxHeartbeats 3200000 in
theorem walk (w : World) (A : Option Addr) (c : Nat) (ls : List La) (hrd : Rd w 3 A ls.length (lasC ls)) (hls : ∀ y ∈ ls, Bs w y.A y.key) (hlk : ∀ y ∈ ls, y.key.length ≤ 140737488355328) (B : Option Addr) (d : Nat) (K : List UInt8) (hK : K.length ≤ 140737488355328) (hbK : Bs w B K) :
    Calls Try.prog 4 #[.slice A ls.length c, .slice B K.length d] w fun e w' => e = .returned (.bool true) ∧ Below w.heap.size w w' := by
  obtain ⟨n, hn⟩ : ∃ n, ls.length = n := ⟨_, rfl⟩
  obtain ⟨m, hm⟩ : ∃ m, K.length = m := ⟨_, rfl⟩
  rw [hn] at hrd ⊢
  rw [hm] at hK ⊢
  replace hn := Lib.hid hn
  replace hm := Lib.hid hm
  replace hls := Lib.hid hls
  replace hlk := Lib.hid hlk
  go_enter Try.func4, Try.ntmps4
  by_cases hbig : 80 < n
  · have d1 : decide ((80 : Int) < (n : Int)) = true := decide_eq_true (by omega)
    go_wp2_with fail
    refine (lives_any _).mono ?_
    rintro _ w1 ⟨rfl, b1⟩
    go_wp2
    go_ret
    exact ⟨rfl, b1⟩
  · have d1 : decide ((80 : Int) < (n : Int)) = false := decide_eq_false (by omega)
    have hn80 : n ≤ 80 := by omega
    clear hbig
    go_wp2_with fail
    refine (newL w).mono ?_
    rintro _ w1 ⟨p, g0, rfl, sk0, b0⟩
    go_wp2
    go_loopw [6] (fun i wr => ∃ k g : Nat, k ≤ n ∧ i = .int .i64 (k : Int) ∧ SkL wr w.heap.size p g (mkM (keyAt ls) (fun i => (i : Int)) k) ∧ Below w.heap.size w wr) (fun i _ => n - (intOf i).toNat)
    case atStart => exact ⟨0, g0, by omega, rfl, sk0, b0⟩
    case round =>
      clear sk0 b0
      obtain ⟨k, g, hk, rfl, sk, hbel⟩ := hrel
      by_cases hlt : k < n
      · obtain ⟨b, off, rfl, _, hc⟩ := (hrd.below hbel).at_ hlt
        have hkl : k < ls.length := by rw [hn.out]; exact hlt
        have hc0 := hc _ _ (lasC_get hkl (show 0 < 3 by omega))
        have hy := List.getElem_mem hkl
        have hbs := (hls.out _ hy).below hbel
        have hkn := hlk.out _ hy
        have hka := keyAt_lt hkl
        obtain ⟨y, hye⟩ : ∃ y, ls[k] = y := ⟨_, rfl⟩
        rw [hye] at hc0 hbs hkn hka
        obtain ⟨Ay, Ky, cy, ny, hy'⟩ := y
        simp only [Nat.add_zero] at hc0 hbs hkn hka
        obtain ⟨my, hmy⟩ : ∃ my, Ky.length = my := ⟨_, rfl⟩
        rw [hmy] at hkn
        replace hc0 : wr.cell? ⟨b, off + k * 3, none⟩ = some (.slice Ay Ky.length cy) := hc0
        rw [hmy] at hc0
        have hlen := mkM_length (keyAt ls) (fun i => (i : Int)) k
        have pc := putL wr w.heap.size p g _ sk (by omega) Ky Ay my cy hmy hkn hbs (k : Int) (1 + (k : Int) % 8) (by omega) (by omega)
        have hsk := sk.lt
        have e : putM (mkM (keyAt ls) (fun i => (i : Int)) k) Ky (k : Int) = mkM (keyAt ls) (fun i => (i : Int)) (k + 1) := by rw [mkM, hka]
        rw [e] at pc
        replace hmy := Lib.hid hmy
        replace hka := Lib.hid hka
        replace hye := Lib.hid hye
        replace pc := Lib.hid pc
        clear hc hlen e
        go_wp2_with fail
        refine pc.out.mono ?_
        rintro _ w2 ⟨g', e0, rfl, _, sk2, kb, hg'⟩
        have hb2 := hbel.trans (kb.below hbel.size (fun x hx => by omega))
        go_wp2
        go_roundw
        case rel => exact ⟨k + 1, g', by omega, by go_num, sk2, hb2⟩
        case measure => simp [intOf] <;> omega
      · obtain rfl : k = n := by omega
        have hlen := mkM_length (keyAt ls) (fun i => (i : Int)) k
        have hri := mkM_rises (keyAt ls) (fun i => (i : Int)) k
        generalize mkM (keyAt ls) (fun i => (i : Int)) k = M at sk hlen hri
        obtain ⟨T, hT, hTl⟩ := from_split M K
        have hQl := dropWhile_not hri (K := K)
        obtain ⟨Q, hQ⟩ : ∃ Q, fromM M K = Q := ⟨_, rfl⟩
        rw [hQ] at hT hQl
        have kK := fun W (h : Below w.heap.size w W) => run_str (P := Try.prog) (hbK.below h) 26 9 5 Try.underlying26 Try.underlying5 Try.underlying9 m d hm.out
        replace kK := Lib.hid kK
        have pc := allL wr w.heap.size p g M sk (by omega) ⟨#[]⟩ [] rfl (by decide)
        rw [fromM_nil] at pc
        go_wp2_with fail
        refine pc.mono ?_
        clear pc
        rintro _ w2 ⟨A1, n1, c1, rfl, hn1, hnc1, hc1, r1, kb⟩
        replace sk := sk.below kb
        replace hbel := hbel.trans (kb.mono hbel.size)
        clear kb
        have k1 := kK.out w2 hbel
        have pc := allL w2 w.heap.size p g M sk (by omega) ⟨K.toArray⟩ K rfl (by show K.toArray.size ≤ _; rw [List.size_toArray, hm.out]; exact hK)
        rw [hQ] at pc
        replace hQ := Lib.hid hQ
        go_wp2_with fail
        refine pc.mono ?_
        clear pc k1
        rintro _ w3 ⟨A2, n2, c2, rfl, hn2, hnc2, hc2, r2, kb⟩
        replace r1 := r1.below kb
        replace hbel := hbel.trans (kb.mono hbel.size)
        clear kb sk
        obtain ⟨t, ht⟩ : ∃ t, T.length = t := ⟨_, rfl⟩
        have hn12 : n1 = t + n2 := by rw [← hn1, hT, List.length_append, ht, hn2]
        have hn1' : n1 ≤ 100 := by omega
        have hsub : (n1 : Int) - (n2 : Int) = (t : Int) := by omega
        have hsub2 : n1 - t = n2 := by omega
        have htc : t ≤ n1 := by omega
        unfold maxLen at hc1 hc2
        replace hT := Lib.hid hT
        replace hTl := Lib.hid hTl
        replace hQl := Lib.hid hQl
        replace ht := Lib.hid ht
        replace hn1 := Lib.hid hn1
        replace hn2 := Lib.hid hn2
        replace hn12 := Lib.hid hn12
        have fin : ∀ (A' : Option Addr) (cc : Nat), (t < n1 → A' = A1.map (·.add (t * 2))) → Calls Try.prog 12 #[.slice A' n2 cc, .slice A2 n2 c2] w3 fun e w' => e = .returned (.bool true) ∧ Below w3.heap.size w3 w' := by
          intro A' cc hA
          have h1 := r1.cut htc (Nat.le_refl _) hA
          have e1 : ((pairsC M).drop (t * 2)).take ((n1 - t) * 2) = pairsC Q := by
            rw [hT.out, pairsC_append, List.drop_append_of_le_length (by rw [pairsC_length, ht.out]; omega), List.drop_of_length_le (by rw [pairsC_length, ht.out]; omega), List.nil_append]
            exact List.take_of_length_le (by rw [pairsC_length, hn2.out]; omega)
          rw [e1, hsub2] at h1
          exact same_yes w3 A' A2 n2 cc c2 Q hn2.out (by omega) h1 r2
        replace fin := Lib.hid fin
        by_cases hct : c1 = t
        · have pc := fin.out A1 0 (fun h => absurd h (by have := hn12.out; omega))
          replace hct := hct.symm
          subst hct
          go_wp2_with fail
          refine pc.mono ?_
          clear pc
          rintro _ w4 ⟨rfl, kb⟩
          replace r1 := r1.below kb
          replace r2 := r2.below kb
          replace hbel := hbel.trans (kb.mono hbel.size)
          clear kb fin
          go_wp2
          go_loopw [10] (fun i wr => ∃ j : Nat, j ≤ t ∧ i = .int .i64 (j : Int) ∧ Below w4.heap.size w4 wr) (fun i _ => t - (intOf i).toNat)
          case atStart => exact ⟨0, by omega, rfl, Below.refl _ _⟩
          case round =>
            obtain ⟨j, hj, rfl, hb4⟩ := hrel
            by_cases hlt2 : j < t
            · obtain ⟨b, off, hA1, _, hc⟩ := (r1.below hb4).at_ (show j < n1 by omega)
              have hjM : j < M.length := by rw [hn1.out]; omega
              have hjT : j < T.length := by rw [ht.out]; exact hlt2
              have hMj : M[j] = T[j] := by
                have h1 : M[j]? = T[j]? := by rw [hT.out, List.getElem?_append_left hjT]
                rw [List.getElem?_eq_getElem hjM, List.getElem?_eq_getElem hjT] at h1
                exact Option.some.inj h1
              have hcj := hc _ _ (pairsC_get hjM).1
              rw [hMj] at hcj
              have hl := hTl.out _ (List.getElem_mem hjT)
              obtain ⟨x, hx⟩ : ∃ x, T[j] = x := ⟨_, rfl⟩
              rw [hx] at hcj hl
              have hl' : Op.bytesLess x.1 K = true := hl
              have kw := fun q => kK.out (wr.drewN q) (hbel.trans ((below_drewN hb4 q).mono hbel.size))
              subst hA1
              clear hc hMj hx hl
              go_wp2
              go_quiet (fail)
              all_goals go_wp2
              all_goals go_roundw
              case rel => exact ⟨j + 1, by omega, by go_num, below_drewN hb4 _⟩
              case measure => simp [intOf] <;> omega
            · obtain rfl : j = t := by omega
              have hbw := hbel.trans (hb4.mono hbel.size)
              rcases Q with _ | ⟨x, Q⟩
              · have hn20 : n2 = 0 := by have := hn2.out; simpa using this.symm
                have d2 : ((n2 : Int) == 0) = true := by simp [hn20]
                clear r1 r2 hnc2 hsub hsub2 htc hn20
                go_wp2
                have hfol : Try.prog.follows .mixedOrders = true := by kernel_rfl
                have hS0 : Below w.heap.size w wr.drew := hbw.drew
                refine wp_region_held (S := fun W => Below w.heap.size w W) hfol ?_
                refine wpAnyH_take (i := 0) (v := .slice A2 n2 c2) rfl (by kernel_rfl) (by kernel_rfl) (by kernel_rfl) (fun _ _ _ h => h) (.inl ⟨by kernel_rfl, fun W hW => by go_simp⟩) hS0 ?_
                try dsimp only [Act.put]
                try simp only [List.setIfInBounds_toArray, List.set_cons_zero, List.set_cons_succ]
                refine wpAnyH_take (i := 1) (v := .int .i64 (n2 : Int)) rfl (by kernel_rfl) (by kernel_rfl) (by kernel_rfl) (fun _ _ _ h => h) (.inl ⟨by kernel_rfl, fun W hW => by go_simp⟩) hS0 ?_
                try dsimp only [Act.put]
                try simp only [List.setIfInBounds_toArray, List.set_cons_zero, List.set_cons_succ]
                refine wpAnyH_take (i := 2) (v := .bool true) rfl (by kernel_rfl) (by kernel_rfl) (by kernel_rfl) (fun _ _ _ h => h) (.inl ⟨by kernel_rfl, fun W hW => by go_simp⟩) hS0 ?_
                try dsimp only [Act.put]
                try simp only [List.setIfInBounds_toArray, List.set_cons_zero, List.set_cons_succ]
                refine wpAnyH_take (i := 3) (v := .bool true) rfl (by kernel_rfl) (by kernel_rfl) (by kernel_rfl) (fun _ _ _ h => h) (.inl ⟨by kernel_rfl, fun W hW => by go_simp⟩) hS0 ?_
                try dsimp only [Act.put]
                try simp only [List.setIfInBounds_toArray, List.set_cons_zero, List.set_cons_succ]
                refine wpAnyH_take (i := 4) (v := undef) rfl (by kernel_rfl) (by kernel_rfl) (by kernel_rfl) (fun _ _ _ h => h) (.inr ⟨by kernel_rfl, rfl⟩) hS0 ?_
                try dsimp only [Act.put]
                try simp only [List.setIfInBounds_toArray, List.set_cons_zero, List.set_cons_succ]
                refine wpAnyH_take (i := 5) (v := undef) rfl (by kernel_rfl) (by kernel_rfl) (by kernel_rfl) (fun _ _ _ h => h) (.inr ⟨by kernel_rfl, rfl⟩) hS0 ?_
                try dsimp only [Act.put]
                try simp only [List.setIfInBounds_toArray, List.set_cons_zero, List.set_cons_succ]
                refine wpAnyH_take (i := 6) (v := undef) rfl (by kernel_rfl) (by kernel_rfl) (by kernel_rfl) (fun _ _ _ h => h) (.inr ⟨by kernel_rfl, rfl⟩) hS0 ?_
                try dsimp only [Act.put]
                try simp only [List.setIfInBounds_toArray, List.set_cons_zero, List.set_cons_succ]
                refine wpAnyH_take (i := 7) (v := undef) rfl (by kernel_rfl) (by kernel_rfl) (by kernel_rfl) (fun _ _ _ h => h) (.inr ⟨by kernel_rfl, rfl⟩) hS0 ?_
                try dsimp only [Act.put]
                try simp only [List.setIfInBounds_toArray, List.set_cons_zero, List.set_cons_succ]
                refine wpAnyH_take (i := 8) (v := undef) rfl (by kernel_rfl) (by kernel_rfl) (by kernel_rfl) (fun _ _ _ h => h) (.inr ⟨by kernel_rfl, rfl⟩) hS0 ?_
                try dsimp only [Act.put]
                try simp only [List.setIfInBounds_toArray, List.set_cons_zero, List.set_cons_succ]
                refine wpAnyH_take (i := 9) (v := undef) rfl (by kernel_rfl) (by kernel_rfl) (by kernel_rfl) (fun _ _ _ h => h) (.inr ⟨by kernel_rfl, rfl⟩) hS0 ?_
                try dsimp only [Act.put]
                try simp only [List.setIfInBounds_toArray, List.set_cons_zero, List.set_cons_succ]
                refine wpAnyH_take (i := 10) (v := undef) rfl (by kernel_rfl) (by kernel_rfl) (by kernel_rfl) (fun _ _ _ h => h) (.inr ⟨by kernel_rfl, rfl⟩) hS0 ?_
                try dsimp only [Act.put]
                try simp only [List.setIfInBounds_toArray, List.set_cons_zero, List.set_cons_succ]
                refine wpAnyH_take (i := 11) (v := .bool true) rfl (by kernel_rfl) (by kernel_rfl) (by kernel_rfl) (fun _ _ _ h => h) (.inl ⟨by kernel_rfl, fun W hW => by go_simp⟩) hS0 ?_
                try dsimp only [Act.put]
                try simp only [List.setIfInBounds_toArray, List.set_cons_zero, List.set_cons_succ]
                refine wpAnyH_take (i := 12) (v := .bool true) rfl (by kernel_rfl) (by kernel_rfl) (by kernel_rfl) (fun _ _ _ h => h) (.inl ⟨by kernel_rfl, fun W hW => by go_simp⟩) hS0 ?_
                try dsimp only [Act.put]
                try simp only [List.setIfInBounds_toArray, List.set_cons_zero, List.set_cons_succ]
                refine wpAnyH_ready (rs := [13]) (by kernel_rfl) (by simp) (AllReadyH.cons rfl (fun K' hK => ?_) AllReadyH.nil)
                go_simp
                go_at_call 7
                refine (lives_any _).mono ?_
                rintro _ w5 ⟨rfl, k5⟩
                have hS1 : Below w.heap.size w w5 := hS0.trans (k5.mono hS0.size)
                refine hK.out _ _ hS1 (fun _ => ?_)
                clear hK K'
                try dsimp only [Act.put]
                try simp only [List.setIfInBounds_toArray, List.set_cons_zero, List.set_cons_succ]
                refine wpAnyH_take (i := 14) (v := .bool true) rfl (by kernel_rfl) (by kernel_rfl) (by kernel_rfl) (fun _ _ _ h => h) (.inl ⟨by kernel_rfl, fun W hW => by go_simp⟩) hS1 ?_
                try dsimp only [Act.put]
                try simp only [List.setIfInBounds_toArray, List.set_cons_zero, List.set_cons_succ]
                refine wpAnyH_ready (rs := [15]) (by kernel_rfl) (by simp) (AllReadyH.cons rfl (fun K' hK => ?_) AllReadyH.nil)
                go_simp
                refine hK.out _ _ hS1 (fun _ => ?_)
                clear hK K'
                try dsimp only [Act.put]
                try simp only [List.setIfInBounds_toArray, List.set_cons_zero, List.set_cons_succ]
                refine wpAnyH_done (by kernel_rfl) ?_ _
                clear d2 hfol
                go_wp2
                go_ret
                exact ⟨rfl, hS1⟩
              · have hn2p : 0 < n2 := by have := hn2.out; simp at this; omega
                obtain ⟨b2, off2, hA2, _, hc⟩ := (r2.below hb4).at_ hn2p
                have hcq : ∀ W, Below wr.heap.size wr W → W.cell? ⟨b2, off2 + 0 * 2, none⟩ = some (.string ⟨x.1.toArray⟩) := fun W h => by
                  obtain ⟨b2', off2', hA2', _, hc⟩ := ((r2.below hb4).below h).at_ hn2p
                  rw [hA2] at hA2'
                  cases hA2'
                  exact hc _ _ (pairsC_get (M := x :: Q) (i := 0) (by simp)).1
                have hl : Op.bytesLess x.1 K = false := hQl.out x (by simp)
                have d2 : ((n2 : Int) == 0) = false := by simp; omega
                have hSof : ∀ W, Below wr.heap.size wr W → W.cell? ⟨b2, off2, none⟩ = some (.string ⟨x.1.toArray⟩) ∧ (convert 26 9 (.slice B m d)).run Try.prog W = .ok (.string ⟨K.toArray⟩) W ∧ Below w.heap.size w W := fun W h => ⟨by have := hcq W h; simpa using this, kK.out W (hbw.trans (h.mono hbw.size)), hbw.trans (h.mono hbw.size)⟩
                subst hA2
                replace hSof := Lib.hid hSof
                clear hcq hc r1 r2 hsub hsub2 htc
                go_wp2
                have hfol : Try.prog.follows .mixedOrders = true := by kernel_rfl
                have hS0 := hSof.out _ ((Below.refl wr.heap.size wr).drew)
                refine wp_region_held (S := fun W => W.cell? ⟨b2, off2, none⟩ = some (.string ⟨x.1.toArray⟩) ∧ (convert 26 9 (.slice B m d)).run Try.prog W = .ok (.string ⟨K.toArray⟩) W ∧ Below w.heap.size w W) hfol ?_
                have n2i : (0 : Int) < (n2 : Int) := by omega
                refine wpAnyH_take (i := 0) (v := .slice (some ⟨b2, off2, none⟩) n2 c2) rfl (by kernel_rfl) (by kernel_rfl) (by kernel_rfl) (fun _ _ _ h => h) (.inl ⟨by kernel_rfl, fun W hW => by go_simp⟩) hS0 ?_
                try dsimp only [Act.put]
                try simp only [List.setIfInBounds_toArray, List.set_cons_zero, List.set_cons_succ]
                refine wpAnyH_take (i := 1) (v := .int .i64 (n2 : Int)) rfl (by kernel_rfl) (by kernel_rfl) (by kernel_rfl) (fun _ _ _ h => h) (.inl ⟨by kernel_rfl, fun W hW => by go_simp⟩) hS0 ?_
                try dsimp only [Act.put]
                try simp only [List.setIfInBounds_toArray, List.set_cons_zero, List.set_cons_succ]
                refine wpAnyH_take (i := 2) (v := .bool false) rfl (by kernel_rfl) (by kernel_rfl) (by kernel_rfl) (fun _ _ _ h => h) (.inl ⟨by kernel_rfl, fun W hW => by go_simp⟩) hS0 ?_
                try dsimp only [Act.put]
                try simp only [List.setIfInBounds_toArray, List.set_cons_zero, List.set_cons_succ]
                refine wpAnyH_take (i := 3) (v := .bool false) rfl (by kernel_rfl) (by kernel_rfl) (by kernel_rfl) (fun _ _ _ h => h) (.inl ⟨by kernel_rfl, fun W hW => by go_simp⟩) hS0 ?_
                try dsimp only [Act.put]
                try simp only [List.setIfInBounds_toArray, List.set_cons_zero, List.set_cons_succ]
                refine wpAnyH_take (i := 4) (v := .slice (some ⟨b2, off2, none⟩) n2 c2) rfl (by kernel_rfl) (by kernel_rfl) (by kernel_rfl) (fun _ _ _ h => h) (.inl ⟨by kernel_rfl, fun W hW => by go_simp⟩) hS0 ?_
                try dsimp only [Act.put]
                try simp only [List.setIfInBounds_toArray, List.set_cons_zero, List.set_cons_succ]
                refine wpAnyH_take (i := 5) (v := .pointer (some ⟨b2, off2, none⟩)) rfl (by kernel_rfl) (by kernel_rfl) (by kernel_rfl) (fun _ _ _ h => h) (.inl ⟨by kernel_rfl, fun W hW => by go_simp⟩) hS0 ?_
                try dsimp only [Act.put]
                try simp only [List.setIfInBounds_toArray, List.set_cons_zero, List.set_cons_succ]
                refine wpAnyH_take (i := 6) (v := .pointer (some ⟨b2, off2, none⟩)) rfl (by kernel_rfl) (by kernel_rfl) (by kernel_rfl) (fun _ _ _ h => h) (.inl ⟨by kernel_rfl, fun W hW => by go_simp⟩) hS0 ?_
                try dsimp only [Act.put]
                try simp only [List.setIfInBounds_toArray, List.set_cons_zero, List.set_cons_succ]
                refine wpAnyH_take (i := 7) (v := .string ⟨x.1.toArray⟩) rfl (by kernel_rfl) (by kernel_rfl) (by kernel_rfl) (fun _ _ _ h => h) (.inl ⟨by kernel_rfl, fun W hW => by have h1 := hW.1; go_simp⟩) hS0 ?_
                try dsimp only [Act.put]
                try simp only [List.setIfInBounds_toArray, List.set_cons_zero, List.set_cons_succ]
                refine wpAnyH_take (i := 8) (v := .slice B m d) rfl (by kernel_rfl) (by kernel_rfl) (by kernel_rfl) (fun _ _ _ h => h) (.inl ⟨by kernel_rfl, fun W hW => by go_simp⟩) hS0 ?_
                try dsimp only [Act.put]
                try simp only [List.setIfInBounds_toArray, List.set_cons_zero, List.set_cons_succ]
                refine wpAnyH_take (i := 9) (v := .string ⟨K.toArray⟩) rfl (by kernel_rfl) (by kernel_rfl) (by kernel_rfl) (fun _ _ _ h => h) (.inl ⟨by kernel_rfl, fun W hW => by have h1 := hW.2.1; go_simp⟩) hS0 ?_
                try dsimp only [Act.put]
                try simp only [List.setIfInBounds_toArray, List.set_cons_zero, List.set_cons_succ]
                refine wpAnyH_take (i := 10) (v := .bool true) rfl (by kernel_rfl) (by kernel_rfl) (by kernel_rfl) (fun _ _ _ h => h) (.inl ⟨by kernel_rfl, fun W hW => by go_simp⟩) hS0 ?_
                try dsimp only [Act.put]
                try simp only [List.setIfInBounds_toArray, List.set_cons_zero, List.set_cons_succ]
                refine wpAnyH_take (i := 11) (v := .bool true) rfl (by kernel_rfl) (by kernel_rfl) (by kernel_rfl) (fun _ _ _ h => h) (.inl ⟨by kernel_rfl, fun W hW => by go_simp⟩) hS0 ?_
                try dsimp only [Act.put]
                try simp only [List.setIfInBounds_toArray, List.set_cons_zero, List.set_cons_succ]
                refine wpAnyH_take (i := 12) (v := .bool true) rfl (by kernel_rfl) (by kernel_rfl) (by kernel_rfl) (fun _ _ _ h => h) (.inl ⟨by kernel_rfl, fun W hW => by go_simp⟩) hS0 ?_
                try dsimp only [Act.put]
                try simp only [List.setIfInBounds_toArray, List.set_cons_zero, List.set_cons_succ]
                refine wpAnyH_ready (rs := [13]) (by kernel_rfl) (by simp) (AllReadyH.cons rfl (fun K' hK => ?_) AllReadyH.nil)
                go_simp
                go_at_call 7
                refine (lives_any _).mono ?_
                rintro _ w5 ⟨rfl, k5⟩
                have q5 : Below wr.heap.size wr w5 := (Below.refl wr.heap.size wr).drew.trans k5
                have hS1 := hSof.out _ q5
                refine hK.out _ _ hS1 (fun _ => ?_)
                clear hK K'
                try dsimp only [Act.put]
                try simp only [List.setIfInBounds_toArray, List.set_cons_zero, List.set_cons_succ]
                refine wpAnyH_take (i := 14) (v := .bool true) rfl (by kernel_rfl) (by kernel_rfl) (by kernel_rfl) (fun _ _ _ h => h) (.inl ⟨by kernel_rfl, fun W hW => by go_simp⟩) hS1 ?_
                try dsimp only [Act.put]
                try simp only [List.setIfInBounds_toArray, List.set_cons_zero, List.set_cons_succ]
                refine wpAnyH_ready (rs := [15]) (by kernel_rfl) (by simp) (AllReadyH.cons rfl (fun K' hK => ?_) AllReadyH.nil)
                go_simp
                refine hK.out _ _ hS1 (fun _ => ?_)
                clear hK K'
                try dsimp only [Act.put]
                try simp only [List.setIfInBounds_toArray, List.set_cons_zero, List.set_cons_succ]
                refine wpAnyH_done (by kernel_rfl) ?_ _
                have fin2 := hS1.2.2
                clear d2 hfol hS1 hS0 n2i hl
                go_wp2
                go_ret
                exact ⟨rfl, fin2⟩
        · have pc := fin.out _ (c1 - t) (fun _ => rfl)
          go_wp2_with fail
          refine pc.mono ?_
          clear pc
          rintro _ w4 ⟨rfl, kb⟩
          replace r1 := r1.below kb
          replace r2 := r2.below kb
          replace hbel := hbel.trans (kb.mono hbel.size)
          clear kb fin
          go_wp2
          go_loopw [10] (fun i wr => ∃ j : Nat, j ≤ t ∧ i = .int .i64 (j : Int) ∧ Below w4.heap.size w4 wr) (fun i _ => t - (intOf i).toNat)
          case atStart => exact ⟨0, by omega, rfl, Below.refl _ _⟩
          case round =>
            obtain ⟨j, hj, rfl, hb4⟩ := hrel
            by_cases hlt2 : j < t
            · obtain ⟨b, off, hA1, _, hc⟩ := (r1.below hb4).at_ (show j < n1 by omega)
              have hjM : j < M.length := by rw [hn1.out]; omega
              have hjT : j < T.length := by rw [ht.out]; exact hlt2
              have hMj : M[j] = T[j] := by
                have h1 : M[j]? = T[j]? := by rw [hT.out, List.getElem?_append_left hjT]
                rw [List.getElem?_eq_getElem hjM, List.getElem?_eq_getElem hjT] at h1
                exact Option.some.inj h1
              have hcj := hc _ _ (pairsC_get hjM).1
              rw [hMj] at hcj
              have hl := hTl.out _ (List.getElem_mem hjT)
              obtain ⟨x, hx⟩ : ∃ x, T[j] = x := ⟨_, rfl⟩
              rw [hx] at hcj hl
              have hl' : Op.bytesLess x.1 K = true := hl
              have kw := fun q => kK.out (wr.drewN q) (hbel.trans ((below_drewN hb4 q).mono hbel.size))
              subst hA1
              clear hc hMj hx hl
              go_wp2
              go_quiet (fail)
              all_goals go_wp2
              all_goals go_roundw
              case rel => exact ⟨j + 1, by omega, by go_num, below_drewN hb4 _⟩
              case measure => simp [intOf] <;> omega
            · obtain rfl : j = t := by omega
              have hbw := hbel.trans (hb4.mono hbel.size)
              rcases Q with _ | ⟨x, Q⟩
              · have hn20 : n2 = 0 := by have := hn2.out; simpa using this.symm
                have d2 : ((n2 : Int) == 0) = true := by simp [hn20]
                clear r1 r2 hnc2 hsub hsub2 htc hn20
                go_wp2
                have hfol : Try.prog.follows .mixedOrders = true := by kernel_rfl
                have hS0 : Below w.heap.size w wr.drew := hbw.drew
                refine wp_region_held (S := fun W => Below w.heap.size w W) hfol ?_
                refine wpAnyH_take (i := 0) (v := .slice A2 n2 c2) rfl (by kernel_rfl) (by kernel_rfl) (by kernel_rfl) (fun _ _ _ h => h) (.inl ⟨by kernel_rfl, fun W hW => by go_simp⟩) hS0 ?_
                try dsimp only [Act.put]
                try simp only [List.setIfInBounds_toArray, List.set_cons_zero, List.set_cons_succ]
                refine wpAnyH_take (i := 1) (v := .int .i64 (n2 : Int)) rfl (by kernel_rfl) (by kernel_rfl) (by kernel_rfl) (fun _ _ _ h => h) (.inl ⟨by kernel_rfl, fun W hW => by go_simp⟩) hS0 ?_
                try dsimp only [Act.put]
                try simp only [List.setIfInBounds_toArray, List.set_cons_zero, List.set_cons_succ]
                refine wpAnyH_take (i := 2) (v := .bool true) rfl (by kernel_rfl) (by kernel_rfl) (by kernel_rfl) (fun _ _ _ h => h) (.inl ⟨by kernel_rfl, fun W hW => by go_simp⟩) hS0 ?_
                try dsimp only [Act.put]
                try simp only [List.setIfInBounds_toArray, List.set_cons_zero, List.set_cons_succ]
                refine wpAnyH_take (i := 3) (v := .bool true) rfl (by kernel_rfl) (by kernel_rfl) (by kernel_rfl) (fun _ _ _ h => h) (.inl ⟨by kernel_rfl, fun W hW => by go_simp⟩) hS0 ?_
                try dsimp only [Act.put]
                try simp only [List.setIfInBounds_toArray, List.set_cons_zero, List.set_cons_succ]
                refine wpAnyH_take (i := 4) (v := undef) rfl (by kernel_rfl) (by kernel_rfl) (by kernel_rfl) (fun _ _ _ h => h) (.inr ⟨by kernel_rfl, rfl⟩) hS0 ?_
                try dsimp only [Act.put]
                try simp only [List.setIfInBounds_toArray, List.set_cons_zero, List.set_cons_succ]
                refine wpAnyH_take (i := 5) (v := undef) rfl (by kernel_rfl) (by kernel_rfl) (by kernel_rfl) (fun _ _ _ h => h) (.inr ⟨by kernel_rfl, rfl⟩) hS0 ?_
                try dsimp only [Act.put]
                try simp only [List.setIfInBounds_toArray, List.set_cons_zero, List.set_cons_succ]
                refine wpAnyH_take (i := 6) (v := undef) rfl (by kernel_rfl) (by kernel_rfl) (by kernel_rfl) (fun _ _ _ h => h) (.inr ⟨by kernel_rfl, rfl⟩) hS0 ?_
                try dsimp only [Act.put]
                try simp only [List.setIfInBounds_toArray, List.set_cons_zero, List.set_cons_succ]
                refine wpAnyH_take (i := 7) (v := undef) rfl (by kernel_rfl) (by kernel_rfl) (by kernel_rfl) (fun _ _ _ h => h) (.inr ⟨by kernel_rfl, rfl⟩) hS0 ?_
                try dsimp only [Act.put]
                try simp only [List.setIfInBounds_toArray, List.set_cons_zero, List.set_cons_succ]
                refine wpAnyH_take (i := 8) (v := undef) rfl (by kernel_rfl) (by kernel_rfl) (by kernel_rfl) (fun _ _ _ h => h) (.inr ⟨by kernel_rfl, rfl⟩) hS0 ?_
                try dsimp only [Act.put]
                try simp only [List.setIfInBounds_toArray, List.set_cons_zero, List.set_cons_succ]
                refine wpAnyH_take (i := 9) (v := undef) rfl (by kernel_rfl) (by kernel_rfl) (by kernel_rfl) (fun _ _ _ h => h) (.inr ⟨by kernel_rfl, rfl⟩) hS0 ?_
                try dsimp only [Act.put]
                try simp only [List.setIfInBounds_toArray, List.set_cons_zero, List.set_cons_succ]
                refine wpAnyH_take (i := 10) (v := undef) rfl (by kernel_rfl) (by kernel_rfl) (by kernel_rfl) (fun _ _ _ h => h) (.inr ⟨by kernel_rfl, rfl⟩) hS0 ?_
                try dsimp only [Act.put]
                try simp only [List.setIfInBounds_toArray, List.set_cons_zero, List.set_cons_succ]
                refine wpAnyH_take (i := 11) (v := .bool true) rfl (by kernel_rfl) (by kernel_rfl) (by kernel_rfl) (fun _ _ _ h => h) (.inl ⟨by kernel_rfl, fun W hW => by go_simp⟩) hS0 ?_
                try dsimp only [Act.put]
                try simp only [List.setIfInBounds_toArray, List.set_cons_zero, List.set_cons_succ]
                refine wpAnyH_take (i := 12) (v := .bool true) rfl (by kernel_rfl) (by kernel_rfl) (by kernel_rfl) (fun _ _ _ h => h) (.inl ⟨by kernel_rfl, fun W hW => by go_simp⟩) hS0 ?_
                try dsimp only [Act.put]
                try simp only [List.setIfInBounds_toArray, List.set_cons_zero, List.set_cons_succ]
                refine wpAnyH_ready (rs := [13]) (by kernel_rfl) (by simp) (AllReadyH.cons rfl (fun K' hK => ?_) AllReadyH.nil)
                go_simp
                go_at_call 7
                refine (lives_any _).mono ?_
                rintro _ w5 ⟨rfl, k5⟩
                have hS1 : Below w.heap.size w w5 := hS0.trans (k5.mono hS0.size)
                refine hK.out _ _ hS1 (fun _ => ?_)
                clear hK K'
                try dsimp only [Act.put]
                try simp only [List.setIfInBounds_toArray, List.set_cons_zero, List.set_cons_succ]
                refine wpAnyH_take (i := 14) (v := .bool true) rfl (by kernel_rfl) (by kernel_rfl) (by kernel_rfl) (fun _ _ _ h => h) (.inl ⟨by kernel_rfl, fun W hW => by go_simp⟩) hS1 ?_
                try dsimp only [Act.put]
                try simp only [List.setIfInBounds_toArray, List.set_cons_zero, List.set_cons_succ]
                refine wpAnyH_ready (rs := [15]) (by kernel_rfl) (by simp) (AllReadyH.cons rfl (fun K' hK => ?_) AllReadyH.nil)
                go_simp
                refine hK.out _ _ hS1 (fun _ => ?_)
                clear hK K'
                try dsimp only [Act.put]
                try simp only [List.setIfInBounds_toArray, List.set_cons_zero, List.set_cons_succ]
                refine wpAnyH_done (by kernel_rfl) ?_ _
                clear d2 hfol
                go_wp2
                go_ret
                exact ⟨rfl, hS1⟩
              · have hn2p : 0 < n2 := by have := hn2.out; simp at this; omega
                obtain ⟨b2, off2, hA2, _, hc⟩ := (r2.below hb4).at_ hn2p
                have hcq : ∀ W, Below wr.heap.size wr W → W.cell? ⟨b2, off2 + 0 * 2, none⟩ = some (.string ⟨x.1.toArray⟩) := fun W h => by
                  obtain ⟨b2', off2', hA2', _, hc⟩ := ((r2.below hb4).below h).at_ hn2p
                  rw [hA2] at hA2'
                  cases hA2'
                  exact hc _ _ (pairsC_get (M := x :: Q) (i := 0) (by simp)).1
                have hl : Op.bytesLess x.1 K = false := hQl.out x (by simp)
                have d2 : ((n2 : Int) == 0) = false := by simp; omega
                have hSof : ∀ W, Below wr.heap.size wr W → W.cell? ⟨b2, off2, none⟩ = some (.string ⟨x.1.toArray⟩) ∧ (convert 26 9 (.slice B m d)).run Try.prog W = .ok (.string ⟨K.toArray⟩) W ∧ Below w.heap.size w W := fun W h => ⟨by have := hcq W h; simpa using this, kK.out W (hbw.trans (h.mono hbw.size)), hbw.trans (h.mono hbw.size)⟩
                subst hA2
                replace hSof := Lib.hid hSof
                clear hcq hc r1 r2 hsub hsub2 htc
                go_wp2
                have hfol : Try.prog.follows .mixedOrders = true := by kernel_rfl
                have hS0 := hSof.out _ ((Below.refl wr.heap.size wr).drew)
                refine wp_region_held (S := fun W => W.cell? ⟨b2, off2, none⟩ = some (.string ⟨x.1.toArray⟩) ∧ (convert 26 9 (.slice B m d)).run Try.prog W = .ok (.string ⟨K.toArray⟩) W ∧ Below w.heap.size w W) hfol ?_
                have n2i : (0 : Int) < (n2 : Int) := by omega
                refine wpAnyH_take (i := 0) (v := .slice (some ⟨b2, off2, none⟩) n2 c2) rfl (by kernel_rfl) (by kernel_rfl) (by kernel_rfl) (fun _ _ _ h => h) (.inl ⟨by kernel_rfl, fun W hW => by go_simp⟩) hS0 ?_
                try dsimp only [Act.put]
                try simp only [List.setIfInBounds_toArray, List.set_cons_zero, List.set_cons_succ]
                refine wpAnyH_take (i := 1) (v := .int .i64 (n2 : Int)) rfl (by kernel_rfl) (by kernel_rfl) (by kernel_rfl) (fun _ _ _ h => h) (.inl ⟨by kernel_rfl, fun W hW => by go_simp⟩) hS0 ?_
                try dsimp only [Act.put]
                try simp only [List.setIfInBounds_toArray, List.set_cons_zero, List.set_cons_succ]
                refine wpAnyH_take (i := 2) (v := .bool false) rfl (by kernel_rfl) (by kernel_rfl) (by kernel_rfl) (fun _ _ _ h => h) (.inl ⟨by kernel_rfl, fun W hW => by go_simp⟩) hS0 ?_
                try dsimp only [Act.put]
                try simp only [List.setIfInBounds_toArray, List.set_cons_zero, List.set_cons_succ]
                refine wpAnyH_take (i := 3) (v := .bool false) rfl (by kernel_rfl) (by kernel_rfl) (by kernel_rfl) (fun _ _ _ h => h) (.inl ⟨by kernel_rfl, fun W hW => by go_simp⟩) hS0 ?_
                try dsimp only [Act.put]
                try simp only [List.setIfInBounds_toArray, List.set_cons_zero, List.set_cons_succ]
                refine wpAnyH_take (i := 4) (v := .slice (some ⟨b2, off2, none⟩) n2 c2) rfl (by kernel_rfl) (by kernel_rfl) (by kernel_rfl) (fun _ _ _ h => h) (.inl ⟨by kernel_rfl, fun W hW => by go_simp⟩) hS0 ?_
                try dsimp only [Act.put]
                try simp only [List.setIfInBounds_toArray, List.set_cons_zero, List.set_cons_succ]
                refine wpAnyH_take (i := 5) (v := .pointer (some ⟨b2, off2, none⟩)) rfl (by kernel_rfl) (by kernel_rfl) (by kernel_rfl) (fun _ _ _ h => h) (.inl ⟨by kernel_rfl, fun W hW => by go_simp⟩) hS0 ?_
                try dsimp only [Act.put]
                try simp only [List.setIfInBounds_toArray, List.set_cons_zero, List.set_cons_succ]
                refine wpAnyH_take (i := 6) (v := .pointer (some ⟨b2, off2, none⟩)) rfl (by kernel_rfl) (by kernel_rfl) (by kernel_rfl) (fun _ _ _ h => h) (.inl ⟨by kernel_rfl, fun W hW => by go_simp⟩) hS0 ?_
                try dsimp only [Act.put]
                try simp only [List.setIfInBounds_toArray, List.set_cons_zero, List.set_cons_succ]
                refine wpAnyH_take (i := 7) (v := .string ⟨x.1.toArray⟩) rfl (by kernel_rfl) (by kernel_rfl) (by kernel_rfl) (fun _ _ _ h => h) (.inl ⟨by kernel_rfl, fun W hW => by have h1 := hW.1; go_simp⟩) hS0 ?_
                try dsimp only [Act.put]
                try simp only [List.setIfInBounds_toArray, List.set_cons_zero, List.set_cons_succ]
                refine wpAnyH_take (i := 8) (v := .slice B m d) rfl (by kernel_rfl) (by kernel_rfl) (by kernel_rfl) (fun _ _ _ h => h) (.inl ⟨by kernel_rfl, fun W hW => by go_simp⟩) hS0 ?_
                try dsimp only [Act.put]
                try simp only [List.setIfInBounds_toArray, List.set_cons_zero, List.set_cons_succ]
                refine wpAnyH_take (i := 9) (v := .string ⟨K.toArray⟩) rfl (by kernel_rfl) (by kernel_rfl) (by kernel_rfl) (fun _ _ _ h => h) (.inl ⟨by kernel_rfl, fun W hW => by have h1 := hW.2.1; go_simp⟩) hS0 ?_
                try dsimp only [Act.put]
                try simp only [List.setIfInBounds_toArray, List.set_cons_zero, List.set_cons_succ]
                refine wpAnyH_take (i := 10) (v := .bool true) rfl (by kernel_rfl) (by kernel_rfl) (by kernel_rfl) (fun _ _ _ h => h) (.inl ⟨by kernel_rfl, fun W hW => by go_simp⟩) hS0 ?_
                try dsimp only [Act.put]
                try simp only [List.setIfInBounds_toArray, List.set_cons_zero, List.set_cons_succ]
                refine wpAnyH_take (i := 11) (v := .bool true) rfl (by kernel_rfl) (by kernel_rfl) (by kernel_rfl) (fun _ _ _ h => h) (.inl ⟨by kernel_rfl, fun W hW => by go_simp⟩) hS0 ?_
                try dsimp only [Act.put]
                try simp only [List.setIfInBounds_toArray, List.set_cons_zero, List.set_cons_succ]
                refine wpAnyH_take (i := 12) (v := .bool true) rfl (by kernel_rfl) (by kernel_rfl) (by kernel_rfl) (fun _ _ _ h => h) (.inl ⟨by kernel_rfl, fun W hW => by go_simp⟩) hS0 ?_
                try dsimp only [Act.put]
                try simp only [List.setIfInBounds_toArray, List.set_cons_zero, List.set_cons_succ]
                refine wpAnyH_ready (rs := [13]) (by kernel_rfl) (by simp) (AllReadyH.cons rfl (fun K' hK => ?_) AllReadyH.nil)
                go_simp
                go_at_call 7
                refine (lives_any _).mono ?_
                rintro _ w5 ⟨rfl, k5⟩
                have q5 : Below wr.heap.size wr w5 := (Below.refl wr.heap.size wr).drew.trans k5
                have hS1 := hSof.out _ q5
                refine hK.out _ _ hS1 (fun _ => ?_)
                clear hK K'
                try dsimp only [Act.put]
                try simp only [List.setIfInBounds_toArray, List.set_cons_zero, List.set_cons_succ]
                refine wpAnyH_take (i := 14) (v := .bool true) rfl (by kernel_rfl) (by kernel_rfl) (by kernel_rfl) (fun _ _ _ h => h) (.inl ⟨by kernel_rfl, fun W hW => by go_simp⟩) hS1 ?_
                try dsimp only [Act.put]
                try simp only [List.setIfInBounds_toArray, List.set_cons_zero, List.set_cons_succ]
                refine wpAnyH_ready (rs := [15]) (by kernel_rfl) (by simp) (AllReadyH.cons rfl (fun K' hK => ?_) AllReadyH.nil)
                go_simp
                refine hK.out _ _ hS1 (fun _ => ?_)
                clear hK K'
                try dsimp only [Act.put]
                try simp only [List.setIfInBounds_toArray, List.set_cons_zero, List.set_cons_succ]
                refine wpAnyH_done (by kernel_rfl) ?_ _
                have fin2 := hS1.2.2
                clear d2 hfol hS1 hS0 n2i hl
                go_wp2
                go_ret
                exact ⟨rfl, fin2⟩

/-! ### from the walk to the statement (by tail.py) -/
set_option maxRecDepth 100000 in
theorem lifted (os : Os) (started : os.Started) (H : Type) (enc : TypeId × Value → H) :
    ReturnsInHanded {} Try.checked os 4 .any (Rows.skipsFromSpec.pre6 enc Try.prog Try.f4 Rows.skipsFromRow.domain false) (Rows.skipsFromSpec.post enc Try.prog Try.f4 false true false false) := by
  refine lifted_of (C := Try.checked) (tb := 4) (n := 2) (by kernel_rfl) started (by kernel_rfl) Try.func4 (by kernel_rfl) (by kernel_rfl) rfl (by kernel_rfl) Try.underlying4 (by kernel_rfl)
    (fun ds hd => by match ds, hd with | [d1, d2], _ => exact ⟨rfl, rfl, rfl⟩)
    (ChangeSpec.witness6 (enc := enc) (C := Try.checked) false ⟨#[], #[.slice none 0 0, .slice none 0 0], []⟩ 8 (by kernel_rfl) (by kernel_rfl) (by kernel_rfl) (by kernel_rfl)) ?_
  intro W base args ds before hval hA hsz
  rw [Try.params4] at hA hval hsz
  obtain ⟨v0, vs0, d0, ds0, p0, q0, rfl, rfl, rfl, h0, r0⟩ := trodAll_cons hA
  obtain ⟨v1, vs1, d1, ds1, p1, q1, rfl, rfl, rfl, h1, r1⟩ := trodAll_cons r0
  obtain ⟨rfl, rfl, rfl⟩ := trodAll_nil r1
  obtain ⟨A0, c0, ls0, rfl, hrd0, hlc0, hls0, hcap0⟩ := open_laids (hval 0 _ _ rfl rfl) h0
  have hc0 := hcap0 hsz 0 rfl rfl
  obtain ⟨A1, c1, l1, rfl, hb1, hlc1, _, hcap1⟩ := open_bytes Try.underlying26 Try.underlying5 (by kernel_rfl) (by kernel_rfl) (hval 1 _ _ rfl rfl) h1
  have hc1 := hcap1 hsz 1 rfl rfl
  exact walk W A0 c0 ls0 hrd0 (fun y hy => (hls0 y hy).1) (fun y hy => by have := reachBytes_lt; have := hc0 y hy; have := (hls0 y hy).2.1; omega) A1 c1 l1 (by have := reachBytes_lt; omega) hb1

theorem over : Rows.skipsFromRow.holds Try.pinned (OpenSpec.ofChange Rows.skipsFromSpec) :=
  OpenClaim.holds_of_wide 4 Try.f4 rfl rfl rfl rfl rfl rfl rfl ⟨rfl, rfl, rfl, rfl, rfl⟩ rfl rfl rfl rfl rfl (by kernel_rfl) Try.func4 (by kernel_rfl)
    (of_decide_eq_true (by kernel_rfl)) (by unfold Func.isWrapper; first | (rw [if_pos (by decide +kernel)]; kernel_rfl) | (rw [if_neg (by decide +kernel)]; exact ⟨rfl, rfl⟩))
    (fun os started H enc _ => lifted os started H enc)

theorem proved : Rows.SkipsFromSaid := over
end Go.Proofs.Ytkijcphkmikdbaa.lawSkipsFrom
