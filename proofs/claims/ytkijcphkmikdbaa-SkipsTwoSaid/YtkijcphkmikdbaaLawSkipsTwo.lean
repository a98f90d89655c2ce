/- Two lists don't know of one another; a key that was not there makes one more, one that was none: for every input, no condition. -/
import Derived.Test.YtkijcphkmikdbaaSkOrd
import Derived.Test.YtkijcphkmikdbaaSkLives
import Derived.Deep.RegionHeld3
set_option linter.unusedSimpArgs false
set_option linter.unusedVariables false
namespace Go.Proofs.Ytkijcphkmikdbaa.lawSkipsTwo
open Go Go.RowKit Herb Go.ChangeShapes Go.WideShapes Go.ChangeAt

theorem apart {w w' : World} {base p g q g' : Nat} {M N : List (List UInt8 × Int)} (h : SkL w base p g M) (k : SkL w base q g' N) (hpq : q ≠ p) (hgg : g' ≠ g) (hk : KeepBut (fun b => b = p ∨ b = g) w w') : SkL w' base q g' N := by
  obtain ⟨⟨c1, f1, t1⟩, ⟨c2, f2, t2⟩⟩ := h.types
  obtain ⟨⟨c3, f3, t3⟩, ⟨c4, f4, t4⟩⟩ := k.types
  have e1 : q ≠ g := by
    rintro rfl
    rw [t2] at t3
    injection t3 with t3
    injection t3 with _ ht
    exact absurd ht (by decide)
  have e2 : g' ≠ p := by
    rintro rfl
    rw [t1] at t4
    injection t4 with t4
    injection t4 with _ ht
    exact absurd ht (by decide)
  exact k.keep hk (by rintro (e | e) <;> contradiction) (by rintro (e | e) <;> contradiction) (fun b cs fr hb => h.bytes hb)
end Go.Proofs.Ytkijcphkmikdbaa.lawSkipsTwo
namespace Go.Proofs.Ytkijcphkmikdbaa
open Go Go.RowKit Herb
theorem SkL.drew' {w : World} {base p g : Nat} {M : List (List UInt8 × Int)} (h : SkL w base p g M) : SkL w.drew base p g M := h.below (Below.refl w.heap.size w).drew
end Go.Proofs.Ytkijcphkmikdbaa
namespace Go.Proofs.Ytkijcphkmikdbaa.lawSkipsTwo
open Go Go.RowKit Herb Go.ChangeShapes Go.WideShapes Go.ChangeAt

theorem rd_but {S : Nat → Prop} {w w' : World} {size n : Nat} {A : Option Addr} {xs : List Value} (h : Rd w size A n xs) (hlt : ∀ a, A = some a → ¬ S a.block) (hk : KeepBut S w w') : Rd w' size A n xs := by
  refine ⟨h.1, fun hn => ?_⟩
  obtain ⟨b, off, rfl, hb, hc⟩ := h.2 hn
  refine ⟨b, off, rfl, Nat.lt_of_lt_of_le hb hk.size, fun j u hu => ?_⟩
  have hbl := hk.block b hb (hlt _ rfl)
  rw [← hc j u hu]
  unfold World.cell?
  rw [hbl]
/-- all: the answer lies in a new block. -/
theorem allL_new (w : World) (base p g : Nat) (M : List (List UInt8 × Int)) (hS : SkL w base p g M) (hM : M.length ≤ 100000) (s : ByteArray) (K : List UInt8) (hK : s.data.toList = K) (hn2 : s.size ≤ 140737488355328) :
    Calls Try.prog 10 #[.pointer (some ⟨p, 0, none⟩), .string s] w fun e w' => ∃ A n c, e = .returned (.slice A n c) ∧ (fromM M K).length = n ∧ (∀ a, A = some a → w.heap.size ≤ a.block) ∧ Rd w' 2 A n (pairsC (fromM M K)) ∧ Below w.heap.size w w' := by
  obtain ⟨N, L, h, cap, I, hA, ht⟩ := hS
  have hl := told_len I
  rw [ht] at hl
  refine (all_any w base p g cap N L h I hA _ hl (by omega) s K hK _ rfl hn2).mono ?_
  rintro e w' ⟨v, rfl, hown, hb⟩
  rw [toldL_rest, ht] at hown
  obtain ⟨A, c, rfl⟩ := own_slice hown
  refine ⟨A, _, c, rfl, rfl, ?_, Rd.of_own hown, hb⟩
  rintro a rfl
  rcases hown.2 with ⟨h1, _⟩ | ⟨_, _, _, h1, h2, _⟩
  · cases h1
  · cases h1; exact h2
set_option maxRecDepth 100000 in
set_option maxHeartbeats 3200000 in
theorem walk (w : World) (A : Option Addr) (c : Nat) (ls : List La) (hrd : Rd w 3 A ls.length (lasC ls)) (hls : ∀ y ∈ ls, Bs w y.A y.key) (hlk : ∀ y ∈ ls, y.key.length ≤ 140737488355328) (y0 : La) (hbK : Bs w y0.A y0.key) (hK : y0.c ≤ 140737488355328) (hKc : y0.key.length ≤ y0.c) :
    Calls Try.prog 5 #[.slice A ls.length c, .agg y0.cells.toArray] w fun e w' => e = .returned (.bool true) ∧ Below w.heap.size w w' := by
  obtain ⟨yA, K, yc, yn, yh⟩ := y0
  replace hbK : Bs w yA K := hbK
  replace hK : yc ≤ 140737488355328 := hK
  replace hKc : K.length ≤ yc := hKc
  show Calls Try.prog 5 #[.slice A ls.length c, .agg #[.slice yA K.length yc, .int .i64 yn, .int .i64 yh]] w _
  obtain ⟨n, hn⟩ : ∃ n, ls.length = n := ⟨_, rfl⟩
  obtain ⟨m, hm⟩ : ∃ m, K.length = m := ⟨_, rfl⟩
  rw [hn] at hrd ⊢
  rw [hm] at hKc ⊢
  replace hn := Lib.hid hn
  replace hm := Lib.hid hm
  obtain ⟨W0, hW0⟩ : ∃ W0, w.alloc (.cells #[.slice yA m yc, .int .i64 yn, .int .i64 yh] 28) = W0 := ⟨_, rfl⟩
  have hb0 : Below w.heap.size w W0 := by rw [← hW0]; exact (Below.refl w.heap.size w).alloc (Nat.le_refl _) _
  have kx : Blk W0 w.heap.size 28 #[.slice yA m yc, .int .i64 yn, .int .i64 yh] := by rw [← hW0]; exact Blk.new w _ _
  have hrd0 : Rd W0 3 A n (lasC ls) := by rw [← hW0]; exact hrd.alloc _
  have hls0 : ∀ y ∈ ls, Bs W0 y.A y.key := fun y hy => by rw [← hW0]; exact (hls y hy).alloc _
  have hbK0 : Bs W0 yA K := by rw [← hW0]; exact hbK.alloc _
  clear hrd hls hbK
  have hxc := fun W (h : Below W0.heap.size W0 W) => (kx.below h kx.lt).cell 0
  have kK := fun W (h : Below W0.heap.size W0 W) => run_str (P := Try.prog) (hbK0.below h) 26 9 5 Try.underlying26 Try.underlying5 Try.underlying9 m yc hm.out
  replace hxc := Lib.hid hxc
  replace kK := Lib.hid kK
  replace hls0 := Lib.hid hls0
  replace hlk := Lib.hid hlk
  go_enter Try.func5, Try.ntmps5
  by_cases hbig : 40 < n
  · have d1 : decide ((40 : Int) < (n : Int)) = true := decide_eq_true (by omega)
    go_wp2_with fail
    refine (lives_any _).mono ?_
    rintro _ w1 ⟨rfl, b1⟩
    go_wp2
    go_ret
    exact ⟨rfl, hb0.trans (b1.mono hb0.size)⟩
  · have d1 : decide ((40 : Int) < (n : Int)) = false := decide_eq_false (by omega)
    have hn80 : n ≤ 40 := by omega
    clear hbig
    go_wp2_with fail
    clear hW0
    refine (newL W0).mono ?_
    rintro _ w1 ⟨p, ga0, rfl, ska0, b0⟩
    go_wp2_with fail
    refine (newL w1).mono ?_
    rintro _ w2 ⟨q, gb, rfl, skb0, b1⟩
    have l1 := ska0.lt
    have l2 := skb0.lt
    have hpq0 : q ≠ p := by omega
    have hgg0 : gb ≠ ga0 := by omega
    replace ska0 := ska0.below b1
    replace skb0 := skb0.mono b0.size
    replace b0 := b0.trans (b1.mono b0.size)
    clear b1 l1 l2
    go_wp2
    go_loopw [7] (fun i wr => ∃ k ga : Nat, k ≤ n ∧ i = .int .i64 (k : Int) ∧ gb ≠ ga ∧ SkL wr W0.heap.size p ga (mkM (keyAt ls) (fun i => (i : Int)) k) ∧ SkL wr W0.heap.size q gb [] ∧ Below W0.heap.size W0 wr) (fun i _ => n - (intOf i).toNat)
    case atStart => exact ⟨0, ga0, by omega, rfl, hgg0, ska0, skb0, b0⟩
    case round =>
      clear ska0 skb0 b0 hgg0
      obtain ⟨k, ga, hk, rfl, hgg, ska, skb, hbel⟩ := hrel
      by_cases hlt : k < n
      · obtain ⟨b, off, rfl, _, hc⟩ := (hrd0.below hbel).at_ hlt
        have hkl : k < ls.length := by rw [hn.out]; exact hlt
        have hc0 := hc _ _ (lasC_get hkl (show 0 < 3 by omega))
        have hy := List.getElem_mem hkl
        have hbs := (hls0.out _ hy).below hbel
        have hkn := hlk.out _ hy
        have hka := keyAt_lt hkl
        obtain ⟨y, hye⟩ : ∃ y, ls[k] = y := ⟨_, rfl⟩
        rw [hye] at hc0 hbs hkn hka
        obtain ⟨Ay, Ky, cy, ny, hy'⟩ := y
        simp only [Nat.add_zero] at hc0 hbs hkn hka
        obtain ⟨my, hmy⟩ : ∃ my, Ky.length = my := ⟨_, rfl⟩
        rw [hmy] at hkn
        replace hc0 : wr.cell? ⟨b, off + k * 3, none⟩ = some (.slice Ay Ky.length cy) := hc0
        rw [hmy] at hc0
        have hlen := mkM_length (keyAt ls) (fun i => (i : Int)) k
        have pc := putL wr W0.heap.size p ga _ ska (by omega) Ky Ay my cy hmy hkn hbs (k : Int) (1 + (k : Int) % 8) (by omega) (by omega)
        have hsk := ska.lt
        have hskb := skb.lt
        have e : putM (mkM (keyAt ls) (fun i => (i : Int)) k) Ky (k : Int) = mkM (keyAt ls) (fun i => (i : Int)) (k + 1) := by rw [mkM, hka]
        rw [e] at pc
        replace hmy := Lib.hid hmy
        replace hka := Lib.hid hka
        replace hye := Lib.hid hye
        replace pc := Lib.hid pc
        clear hc hlen e
        go_wp2_with fail
        refine pc.out.mono ?_
        rintro _ w2 ⟨ga', e0, rfl, he0, ska2, kb, hg'⟩
        clear he0
        have hb2 := hbel.trans (kb.below hbel.size (fun x hx => by omega))
        have skb2 := apart ska skb hpq0 hgg kb
        have hgg2 : gb ≠ ga' := by omega
        clear kb
        go_wp2
        go_roundw
        case rel => exact ⟨k + 1, ga', by omega, by go_num, hgg2, ska2, skb2, hb2⟩
        case measure => simp [intOf] <;> omega
      · obtain rfl : k = n := by omega
        have hlen := mkM_length (keyAt ls) (fun i => (i : Int)) k
        generalize mkM (keyAt ls) (fun i => (i : Int)) k = M at *
        have hxw := hxc.out wr hbel
        go_wp2_with fail
        refine (lenL wr _ q gb [] skb (by simp) 0 rfl).mono ?_
        rintro _ _ ⟨rfl, rfl⟩
        have pc := allL wr _ q gb [] skb (by simp) ⟨#[]⟩ [] rfl (by decide)
        rw [fromM_nil] at pc
        go_wp2_with fail
        refine pc.mono ?_
        clear pc hxw
        rintro _ w3 ⟨A0, n0, c0, rfl, hx0, _, _, _, kb⟩
        have hn00 : n0 = 0 := hx0.symm
        clear hx0
        subst hn00
        replace ska := ska.below kb
        replace skb := skb.below kb
        replace hbel := hbel.trans (kb.mono hbel.size)
        clear kb
        have hxw := hxc.out w3 hbel
        have pc := putL_new w3 _ q gb [] skb (by simp) K yA m yc hm.out (by omega) (hbK0.below hbel) 7 3 (by omega) (by omega) rfl
        rw [show insM [] K 7 = [(K, 7)] from rfl] at pc
        go_wp2_with fail
        refine pc.mono ?_
        clear pc hxw
        rintro _ w4 ⟨gb', rfl, skb4, kb, hgb'⟩
        have l1 := ska.lt
        have l2 := skb.lt
        have ska4 := apart skb ska (fun e => hpq0 e.symm) (fun e => hgg e.symm) kb
        have hgg4 : gb' ≠ ga := by omega
        replace hbel := hbel.trans (kb.below hbel.size (fun x hx => by omega))
        clear kb hgb' l1 l2 ska skb hgg
        have pc := allL_new w4 _ p ga M ska4 (by omega) ⟨#[]⟩ [] rfl (by decide)
        rw [fromM_nil] at pc
        have hpga : p < w4.heap.size ∧ ga < w4.heap.size := ⟨ska4.lt.1, ska4.lt.2.1⟩
        have hM40 : M.length ≤ 40 := by omega
        replace hM40 := Lib.hid hM40
        clear hlen
        go_wp2_with fail
        refine pc.mono ?_
        clear pc
        rintro _ w5 ⟨A1, n1, c1, rfl, hn1, hA1n, r1, kb⟩
        replace hn1 := Lib.hid hn1
        have hA1x : ∀ a, A1 = some a → ¬ (a.block = p ∨ a.block = ga) := fun a ha => by have := hA1n a ha; omega
        replace hA1x := Lib.hid hA1x
        clear hA1n hpga
        have ska := ska4.below kb
        have skb := skb4.below kb
        replace hbel := hbel.trans (kb.mono hbel.size)
        clear kb ska4 skb4
        have hn140 : n1 ≤ 40 := by have := hM40.out; have := hn1.out; omega
        have hxw := hxc.out w5 hbel
        have pcb : ∀ W, SkL W W0.heap.size q gb' [(K, 7)] → _ := fun W h => allL W _ q gb' [(K, 7)] h (by simp) ⟨#[]⟩ [] rfl (by decide)
        simp only [fromM_nil] at pcb
        rcases hh : hasM M K with _ | _
        · have pc := putL_new w5 _ p ga M ska (by have := hM40.out; omega) K yA m yc hm.out (by omega) (hbK0.below hbel) 8 2 (by omega) (by omega) hh
          have hne : ∀ x ∈ M, x.1 ≠ K := fun x hx e => by
            unfold hasM at hh
            rw [List.any_eq_false] at hh
            exact hh x hx (by simp [e])
          have hil := insM_length M K 8
          replace hh := Lib.hid hh
          replace hne := Lib.hid hne
          replace hil := Lib.hid hil
          go_wp2_with fail
          refine pc.mono ?_
          clear pc hxw
          rintro _ w6 ⟨ga', rfl, ska6, kb, hga'⟩
          have l1 := ska.lt
          have skb6 := apart ska skb hpq0 hgg4 kb
          have r16 : Rd w6 2 A1 n1 (pairsC M) := rd_but r1 hA1x.out kb
          replace hbel := hbel.trans (kb.below hbel.size (fun x hx => by omega))
          clear kb hga' l1 ska skb r1
          clear d1
          go_wp2
          go_loopw [10] (fun i wr => ∃ j : Nat, j ≤ n1 ∧ i = .int .i64 (j : Int) ∧ Below w6.heap.size w6 wr) (fun i _ => n1 - (intOf i).toNat)
          case atStart => exact ⟨0, by omega, rfl, Below.refl _ _⟩
          case round =>
            obtain ⟨j, hj, rfl, hb6⟩ := hrel
            by_cases hlt2 : j < n1
            · obtain ⟨b, off, hA1, _, hc⟩ := (r16.below hb6).at_ hlt2
              have hjM : j < M.length := by rw [hn1.out]; exact hlt2
              have hcj := hc _ _ (pairsC_get hjM).1
              have hxm := List.getElem_mem hjM
              have hbw := hbel.trans (hb6.mono hbel.size)
              have kw := fun q => kK.out (wr.drewN q) (below_drewN hbw q)
              have hxw := hxc.out wr hbw
              obtain ⟨x, hx⟩ : ∃ x, M[j].1 = x := ⟨_, rfl⟩
              rw [hx] at hcj
              subst hA1
              have hxK : (x == K) = false := by
                have h0 : x ≠ K := by rw [← hx]; exact hne.out _ hxm
                simpa using h0
              clear hc hx hxm
              go_wp2
              go_quiet (fail)
              all_goals go_wp2
              all_goals go_roundw
              case rel => exact ⟨j + 1, by omega, by go_num, below_drewN hb6 _⟩
              case measure => simp [intOf] <;> omega
            · obtain rfl : j = n1 := by omega
              have ska := ska6.below hb6
              have skb := skb6.below hb6
              have r1 := r16.below hb6
              replace hbel := hbel.trans (hb6.mono hbel.size)
              clear ska6 skb6 r16 hb6
              have pc := allL wr _ p ga' (insM M K 8) ska (by have := hM40.out; have := hil.out; omega) ⟨#[]⟩ [] rfl (by decide)
              rw [fromM_nil] at pc
              go_wp2_with fail
              refine pc.mono ?_
              clear pc
              rintro _ w6b ⟨A3, n3, c3, rfl, hn3, _, _, r3, kb⟩
              have hn3' : n3 = j + 1 := by rw [← hn3]; have := hil.out; have := hn1.out; omega
              clear hn3
              obtain ⟨w6, hw6⟩ : ∃ w6 : World, w6 = w6b := ⟨_, rfl⟩
              rw [← hw6] at kb r3 ⊢
              clear hw6
              replace skb := skb.below kb
              replace r1 := r1.below kb
              replace hbel := hbel.trans (kb.mono hbel.size)
              clear kb ska
              have d3 : ((n3 : Int) == (j : Int) + 1) = true := by simp; omega
              have hwrap7 : IntKind.i64.wrap ((j : Int) + 1) = (j : Int) + 1 := IntWalk.i64_in _ (by omega)
              clear hn3'
              go_wp2_with fail
              have hfol : Try.prog.follows .mixedOrders = true := by kernel_rfl
              have hS0 : Below W0.heap.size W0 w6.drew := hbel.drew
              refine wp_region_held (S := fun W => Below W0.heap.size W0 W) hfol ?_
              refine wpAnyH_take (i := 0) (v := .int .i64 0) rfl (by kernel_rfl) (by kernel_rfl) (by kernel_rfl) (fun _ _ _ h => h) (.inl ⟨by kernel_rfl, fun W hW => by go_simp⟩) hS0 ?_
              try dsimp only [Act.put]
              try simp only [List.setIfInBounds_toArray, List.set_cons_zero, List.set_cons_succ]
              refine wpAnyH_take (i := 1) (v := .bool true) rfl (by kernel_rfl) (by kernel_rfl) (by kernel_rfl) (fun _ _ _ h => h) (.inl ⟨by kernel_rfl, fun W hW => by go_simp⟩) hS0 ?_
              try dsimp only [Act.put]
              try simp only [List.setIfInBounds_toArray, List.set_cons_zero, List.set_cons_succ]
              refine wpAnyH_take (i := 2) (v := .bool true) rfl (by kernel_rfl) (by kernel_rfl) (by kernel_rfl) (fun _ _ _ h => h) (.inl ⟨by kernel_rfl, fun W hW => by go_simp⟩) hS0 ?_
              try dsimp only [Act.put]
              try simp only [List.setIfInBounds_toArray, List.set_cons_zero, List.set_cons_succ]
              refine wpAnyH_take (i := 3) (v := .slice A3 n3 c3) rfl (by kernel_rfl) (by kernel_rfl) (by kernel_rfl) (fun _ _ _ h => h) (.inl ⟨by kernel_rfl, fun W hW => by go_simp⟩) hS0 ?_
              try dsimp only [Act.put]
              try simp only [List.setIfInBounds_toArray, List.set_cons_zero, List.set_cons_succ]
              refine wpAnyH_take (i := 4) (v := .int .i64 (n3 : Int)) rfl (by kernel_rfl) (by kernel_rfl) (by kernel_rfl) (fun _ _ _ h => h) (.inl ⟨by kernel_rfl, fun W hW => by go_simp⟩) hS0 ?_
              try dsimp only [Act.put]
              try simp only [List.setIfInBounds_toArray, List.set_cons_zero, List.set_cons_succ]
              refine wpAnyH_take (i := 5) (v := .slice A1 j c1) rfl (by kernel_rfl) (by kernel_rfl) (by kernel_rfl) (fun _ _ _ h => h) (.inl ⟨by kernel_rfl, fun W hW => by go_simp⟩) hS0 ?_
              try dsimp only [Act.put]
              try simp only [List.setIfInBounds_toArray, List.set_cons_zero, List.set_cons_succ]
              refine wpAnyH_take (i := 6) (v := .int .i64 (j : Int)) rfl (by kernel_rfl) (by kernel_rfl) (by kernel_rfl) (fun _ _ _ h => h) (.inl ⟨by kernel_rfl, fun W hW => by go_simp⟩) hS0 ?_
              try dsimp only [Act.put]
              try simp only [List.setIfInBounds_toArray, List.set_cons_zero, List.set_cons_succ]
              refine wpAnyH_take (i := 7) (v := .int .i64 ((j : Int) + 1)) rfl (by kernel_rfl) (by kernel_rfl) (by kernel_rfl) (fun _ _ _ h => h) (.inl ⟨by kernel_rfl, fun W hW => by go_simp⟩) hS0 ?_
              try dsimp only [Act.put]
              try simp only [List.setIfInBounds_toArray, List.set_cons_zero, List.set_cons_succ]
              refine wpAnyH_take (i := 8) (v := .bool true) rfl (by kernel_rfl) (by kernel_rfl) (by kernel_rfl) (fun _ _ _ h => h) (.inl ⟨by kernel_rfl, fun W hW => by go_simp⟩) hS0 ?_
              try dsimp only [Act.put]
              try simp only [List.setIfInBounds_toArray, List.set_cons_zero, List.set_cons_succ]
              refine wpAnyH_take (i := 9) (v := .bool true) rfl (by kernel_rfl) (by kernel_rfl) (by kernel_rfl) (fun _ _ _ h => h) (.inl ⟨by kernel_rfl, fun W hW => by go_simp⟩) hS0 ?_
              try dsimp only [Act.put]
              try simp only [List.setIfInBounds_toArray, List.set_cons_zero, List.set_cons_succ]
              refine wpAnyH_take (i := 10) (v := .bool true) rfl (by kernel_rfl) (by kernel_rfl) (by kernel_rfl) (fun _ _ _ h => h) (.inl ⟨by kernel_rfl, fun W hW => by go_simp⟩) hS0 ?_
              try dsimp only [Act.put]
              try simp only [List.setIfInBounds_toArray, List.set_cons_zero, List.set_cons_succ]
              refine wpAnyH_take (i := 11) (v := undef) rfl (by kernel_rfl) (by kernel_rfl) (by kernel_rfl) (fun _ _ _ h => h) (.inr ⟨by kernel_rfl, rfl⟩) hS0 ?_
              try dsimp only [Act.put]
              try simp only [List.setIfInBounds_toArray, List.set_cons_zero, List.set_cons_succ]
              refine wpAnyH_take (i := 12) (v := undef) rfl (by kernel_rfl) (by kernel_rfl) (by kernel_rfl) (fun _ _ _ h => h) (.inr ⟨by kernel_rfl, rfl⟩) hS0 ?_
              try dsimp only [Act.put]
              try simp only [List.setIfInBounds_toArray, List.set_cons_zero, List.set_cons_succ]
              refine wpAnyH_take (i := 13) (v := undef) rfl (by kernel_rfl) (by kernel_rfl) (by kernel_rfl) (fun _ _ _ h => h) (.inr ⟨by kernel_rfl, rfl⟩) hS0 ?_
              try dsimp only [Act.put]
              try simp only [List.setIfInBounds_toArray, List.set_cons_zero, List.set_cons_succ]
              refine wpAnyH_take (i := 14) (v := undef) rfl (by kernel_rfl) (by kernel_rfl) (by kernel_rfl) (fun _ _ _ h => h) (.inr ⟨by kernel_rfl, rfl⟩) hS0 ?_
              try dsimp only [Act.put]
              try simp only [List.setIfInBounds_toArray, List.set_cons_zero, List.set_cons_succ]
              refine wpAnyH_take (i := 15) (v := undef) rfl (by kernel_rfl) (by kernel_rfl) (by kernel_rfl) (fun _ _ _ h => h) (.inr ⟨by kernel_rfl, rfl⟩) hS0 ?_
              try dsimp only [Act.put]
              try simp only [List.setIfInBounds_toArray, List.set_cons_zero, List.set_cons_succ]
              refine wpAnyH_take (i := 16) (v := undef) rfl (by kernel_rfl) (by kernel_rfl) (by kernel_rfl) (fun _ _ _ h => h) (.inr ⟨by kernel_rfl, rfl⟩) hS0 ?_
              try dsimp only [Act.put]
              try simp only [List.setIfInBounds_toArray, List.set_cons_zero, List.set_cons_succ]
              refine wpAnyH_take (i := 17) (v := undef) rfl (by kernel_rfl) (by kernel_rfl) (by kernel_rfl) (fun _ _ _ h => h) (.inr ⟨by kernel_rfl, rfl⟩) hS0 ?_
              try dsimp only [Act.put]
              try simp only [List.setIfInBounds_toArray, List.set_cons_zero, List.set_cons_succ]
              have skb7 := skb.drew'
              have hS1 := hS0
              refine wpAnyH_take (i := 18) (v := .bool true) rfl (by kernel_rfl) (by kernel_rfl) (by kernel_rfl) (fun _ _ _ h => h) (.inl ⟨by kernel_rfl, fun W hW => by go_simp⟩) hS1 ?_
              try dsimp only [Act.put]
              try simp only [List.setIfInBounds_toArray, List.set_cons_zero, List.set_cons_succ]
              refine wpAnyH_take (i := 19) (v := .bool true) rfl (by kernel_rfl) (by kernel_rfl) (by kernel_rfl) (fun _ _ _ h => h) (.inl ⟨by kernel_rfl, fun W hW => by go_simp⟩) hS1 ?_
              try dsimp only [Act.put]
              try simp only [List.setIfInBounds_toArray, List.set_cons_zero, List.set_cons_succ]
              refine wpAnyH_take (i := 20) (v := .pointer (some ⟨q, 0, none⟩)) rfl (by kernel_rfl) (by kernel_rfl) (by kernel_rfl) (fun _ _ _ h => h) (.inl ⟨by kernel_rfl, fun W hW => by go_simp⟩) hS1 ?_
              try dsimp only [Act.put]
              try simp only [List.setIfInBounds_toArray, List.set_cons_zero, List.set_cons_succ]
              refine wpAnyH_take (i := 22) (v := .pointer (some ⟨w.heap.size, 0, none⟩)) rfl (by kernel_rfl) (by kernel_rfl) (by kernel_rfl) (fun _ _ _ h => h) (.inl ⟨by kernel_rfl, fun W hW => by go_simp⟩) hS1 ?_
              try dsimp only [Act.put]
              try simp only [List.setIfInBounds_toArray, List.set_cons_zero, List.set_cons_succ]
              refine wpAnyH_take (i := 23) (v := .slice yA m yc) rfl (by kernel_rfl) (by kernel_rfl) (by kernel_rfl) (fun _ _ _ h => h) (.inl ⟨by kernel_rfl, fun W hW => by have h1 := hxc.out W hW; go_simp⟩) hS1 ?_
              try dsimp only [Act.put]
              try simp only [List.setIfInBounds_toArray, List.set_cons_zero, List.set_cons_succ]
              refine wpAnyH_take (i := 24) (v := .string ⟨K.toArray⟩) rfl (by kernel_rfl) (by kernel_rfl) (by kernel_rfl) (fun _ _ _ h => h) (.inl ⟨by kernel_rfl, fun W hW => by have h1 := kK.out W hW; go_simp⟩) hS1 ?_
              try dsimp only [Act.put]
              try simp only [List.setIfInBounds_toArray, List.set_cons_zero, List.set_cons_succ]
              refine wpAnyH_take (i := 25) (v := .agg #[.string ⟨K.toArray⟩, .int .i64 7]) rfl (by kernel_rfl) (by kernel_rfl) (by kernel_rfl) (fun _ _ _ h => h) (.inl ⟨by kernel_rfl, fun W hW => by go_simp⟩) hS1 ?_
              try dsimp only [Act.put]
              try simp only [List.setIfInBounds_toArray, List.set_cons_zero, List.set_cons_succ]
              refine wpAnyH_ready (rs := [21, 26]) (by kernel_rfl) (by simp) (AllReadyH.cons rfl (fun K' hK => ?_) (AllReadyH.cons rfl (fun K' hK => ?_) AllReadyH.nil))
              · go_simp
                go_at_call 10
                refine (pcb w6.drew skb7).mono ?_
                rintro _ w8 ⟨A8, n8, c8, rfl, hn8, _, _, r8, k8⟩
                have hn8' : n8 = 1 := hn8.symm
                clear hn8
                subst hn8'
                have hS2 : Below W0.heap.size W0 w8 := hS1.trans (k8.mono hS1.size)
                refine hK.out _ _ hS2 (fun _ => ?_)
                clear hK K'
                try dsimp only [Act.put]
                try simp only [List.setIfInBounds_toArray, List.set_cons_zero, List.set_cons_succ]
                refine wpAnyH_ready (rs := [26]) (by kernel_rfl) (by simp) (AllReadyH.cons rfl (fun K' hK => ?_) AllReadyH.nil)
                go_simp
                have r9 : Rd (w8.alloc (.cells #[.string ⟨K.toArray⟩, .int .i64 7] 36)) 2 (some ⟨w8.heap.size, 0, none⟩) 1 (pairsC [(K, 7)]) := (Blk.new w8 36 #[.string ⟨K.toArray⟩, .int .i64 7]).rd rfl (fun j u hu => by simpa [pairsC, pairC] using hu)
                have hS3 := hS2.alloc hS2.size (.cells #[.string ⟨K.toArray⟩, .int .i64 7] 36)
                refine hK.out _ _ hS3 (fun _ => ?_)
                clear hK K'
                try dsimp only [Act.put]
                try simp only [List.setIfInBounds_toArray, List.set_cons_zero, List.set_cons_succ]
                refine wpAnyH_ready (rs := [27]) (by kernel_rfl) (by simp) (AllReadyH.cons rfl (fun K' hK => ?_) AllReadyH.nil)
                go_simp
                go_at_call 12
                refine (same_yes _ A8 _ 1 c8 1 [(K, 7)] rfl (by omega) (r8.alloc _) r9).mono ?_
                rintro _ w10 ⟨rfl, k10⟩
                have hS4 : Below W0.heap.size W0 w10 := hS3.trans (k10.mono hS3.size)
                refine hK.out _ _ hS4 (fun _ => ?_)
                clear hK K'
                try dsimp only [Act.put]
                try simp only [List.setIfInBounds_toArray, List.set_cons_zero, List.set_cons_succ]
                refine wpAnyH_take (i := 28) (v := .bool true) rfl (by kernel_rfl) (by kernel_rfl) (by kernel_rfl) (fun _ _ _ h => h) (.inl ⟨by kernel_rfl, fun W hW => by go_simp⟩) hS4 ?_
                try dsimp only [Act.put]
                try simp only [List.setIfInBounds_toArray, List.set_cons_zero, List.set_cons_succ]
                refine wpAnyH_take (i := 29) (v := .bool true) rfl (by kernel_rfl) (by kernel_rfl) (by kernel_rfl) (fun _ _ _ h => h) (.inl ⟨by kernel_rfl, fun W hW => by go_simp⟩) hS4 ?_
                try dsimp only [Act.put]
                try simp only [List.setIfInBounds_toArray, List.set_cons_zero, List.set_cons_succ]
                refine wpAnyH_ready (rs := [30]) (by kernel_rfl) (by simp) (AllReadyH.cons rfl (fun K' hK => ?_) AllReadyH.nil)
                go_simp
                go_at_call 7
                refine (lives_any _).mono ?_
                rintro _ w11 ⟨rfl, k11⟩
                have hS5 : Below W0.heap.size W0 w11 := hS4.trans (k11.mono hS4.size)
                refine hK.out _ _ hS5 (fun _ => ?_)
                clear hK K'
                try dsimp only [Act.put]
                try simp only [List.setIfInBounds_toArray, List.set_cons_zero, List.set_cons_succ]
                refine wpAnyH_take (i := 31) (v := .bool true) rfl (by kernel_rfl) (by kernel_rfl) (by kernel_rfl) (fun _ _ _ h => h) (.inl ⟨by kernel_rfl, fun W hW => by go_simp⟩) hS5 ?_
                try dsimp only [Act.put]
                try simp only [List.setIfInBounds_toArray, List.set_cons_zero, List.set_cons_succ]
                refine wpAnyH_ready (rs := [32]) (by kernel_rfl) (by simp) (AllReadyH.cons rfl (fun K' hK => ?_) AllReadyH.nil)
                go_simp
                refine hK.out _ _ hS5 (fun _ => ?_)
                clear hK K'
                try dsimp only [Act.put]
                try simp only [List.setIfInBounds_toArray, List.set_cons_zero, List.set_cons_succ]
                refine wpAnyH_done (by kernel_rfl) ?_ _
                have fin := hb0.trans (hS5.mono hb0.size)
                clear hS0 hS1 hS2 hS3 hS4 hS5
                go_wp2
                go_ret
                exact ⟨rfl, fin⟩
              · go_simp
                have r9 : Rd (w6.drew.alloc (.cells #[.string ⟨K.toArray⟩, .int .i64 7] 36)) 2 (some ⟨w6.drew.heap.size, 0, none⟩) 1 (pairsC [(K, 7)]) := (Blk.new w6.drew 36 #[.string ⟨K.toArray⟩, .int .i64 7]).rd rfl (fun j u hu => by simpa [pairsC, pairC] using hu)
                have hS2 := hS1.alloc hS1.size (.cells #[.string ⟨K.toArray⟩, .int .i64 7] 36)
                have skb8 := skb7.below ((Below.refl w6.drew.heap.size w6.drew).alloc (Nat.le_refl _) (.cells #[.string ⟨K.toArray⟩, .int .i64 7] 36))
                refine hK.out _ _ hS2 (fun _ => ?_)
                clear hK K'
                try dsimp only [Act.put]
                try simp only [List.setIfInBounds_toArray, List.set_cons_zero, List.set_cons_succ]
                refine wpAnyH_ready (rs := [21]) (by kernel_rfl) (by simp) (AllReadyH.cons rfl (fun K' hK => ?_) AllReadyH.nil)
                go_simp
                go_at_call 10
                refine (pcb _ skb8).mono ?_
                rintro _ w8 ⟨A8, n8, c8, rfl, hn8, _, _, r8, k8⟩
                have hn8' : n8 = 1 := hn8.symm
                clear hn8
                subst hn8'
                have hS3 : Below W0.heap.size W0 w8 := hS2.trans (k8.mono hS2.size)
                refine hK.out _ _ hS3 (fun _ => ?_)
                clear hK K'
                try dsimp only [Act.put]
                try simp only [List.setIfInBounds_toArray, List.set_cons_zero, List.set_cons_succ]
                refine wpAnyH_ready (rs := [27]) (by kernel_rfl) (by simp) (AllReadyH.cons rfl (fun K' hK => ?_) AllReadyH.nil)
                go_simp
                go_at_call 12
                refine (same_yes _ A8 _ 1 c8 1 [(K, 7)] rfl (by omega) r8 (r9.below k8)).mono ?_
                rintro _ w10 ⟨rfl, k10⟩
                have hS4 : Below W0.heap.size W0 w10 := hS3.trans (k10.mono hS3.size)
                refine hK.out _ _ hS4 (fun _ => ?_)
                clear hK K'
                try dsimp only [Act.put]
                try simp only [List.setIfInBounds_toArray, List.set_cons_zero, List.set_cons_succ]
                refine wpAnyH_take (i := 28) (v := .bool true) rfl (by kernel_rfl) (by kernel_rfl) (by kernel_rfl) (fun _ _ _ h => h) (.inl ⟨by kernel_rfl, fun W hW => by go_simp⟩) hS4 ?_
                try dsimp only [Act.put]
                try simp only [List.setIfInBounds_toArray, List.set_cons_zero, List.set_cons_succ]
                refine wpAnyH_take (i := 29) (v := .bool true) rfl (by kernel_rfl) (by kernel_rfl) (by kernel_rfl) (fun _ _ _ h => h) (.inl ⟨by kernel_rfl, fun W hW => by go_simp⟩) hS4 ?_
                try dsimp only [Act.put]
                try simp only [List.setIfInBounds_toArray, List.set_cons_zero, List.set_cons_succ]
                refine wpAnyH_ready (rs := [30]) (by kernel_rfl) (by simp) (AllReadyH.cons rfl (fun K' hK => ?_) AllReadyH.nil)
                go_simp
                go_at_call 7
                refine (lives_any _).mono ?_
                rintro _ w11 ⟨rfl, k11⟩
                have hS5 : Below W0.heap.size W0 w11 := hS4.trans (k11.mono hS4.size)
                refine hK.out _ _ hS5 (fun _ => ?_)
                clear hK K'
                try dsimp only [Act.put]
                try simp only [List.setIfInBounds_toArray, List.set_cons_zero, List.set_cons_succ]
                refine wpAnyH_take (i := 31) (v := .bool true) rfl (by kernel_rfl) (by kernel_rfl) (by kernel_rfl) (fun _ _ _ h => h) (.inl ⟨by kernel_rfl, fun W hW => by go_simp⟩) hS5 ?_
                try dsimp only [Act.put]
                try simp only [List.setIfInBounds_toArray, List.set_cons_zero, List.set_cons_succ]
                refine wpAnyH_ready (rs := [32]) (by kernel_rfl) (by simp) (AllReadyH.cons rfl (fun K' hK => ?_) AllReadyH.nil)
                go_simp
                refine hK.out _ _ hS5 (fun _ => ?_)
                clear hK K'
                try dsimp only [Act.put]
                try simp only [List.setIfInBounds_toArray, List.set_cons_zero, List.set_cons_succ]
                refine wpAnyH_done (by kernel_rfl) ?_ _
                have fin := hb0.trans (hS5.mono hb0.size)
                clear hS0 hS1 hS2 hS3 hS4 hS5
                go_wp2
                go_ret
                exact ⟨rfl, fin⟩

        · have pc := putL_there w5 _ p ga M ska (by have := hM40.out; omega) K yA m yc hm.out (hbK0.below hbel) 8 2 (by omega) (by omega) hh
          replace hh := Lib.hid hh
          go_wp2_with fail
          refine pc.mono ?_
          clear pc hxw
          rintro _ w6 ⟨rfl, kb⟩
          have ska6 := ska.below kb
          have skb6 := skb.below kb
          have r16 := r1.below kb
          replace hbel := hbel.trans (kb.mono hbel.size)
          clear kb ska skb r1
          clear d1
          go_wp2
          go_loopw [10] (fun i wr => ∃ j : Nat, j ≤ n1 ∧ i = .int .i64 (j : Int) ∧ Below w6.heap.size w6 wr) (fun i _ => n1 - (intOf i).toNat)
          case atStart => exact ⟨0, by omega, rfl, Below.refl _ _⟩
          case round =>
            obtain ⟨j, hj, rfl, hb6⟩ := hrel
            by_cases hlt2 : j < n1
            · obtain ⟨b, off, hA1, _, hc⟩ := (r16.below hb6).at_ hlt2
              have hjM : j < M.length := by rw [hn1.out]; exact hlt2
              have hcj := hc _ _ (pairsC_get hjM).1
              have hxm := List.getElem_mem hjM
              have hbw := hbel.trans (hb6.mono hbel.size)
              have kw := fun q => kK.out (wr.drewN q) (below_drewN hbw q)
              have hxw := hxc.out wr hbw
              obtain ⟨x, hx⟩ : ∃ x, M[j].1 = x := ⟨_, rfl⟩
              rw [hx] at hcj
              subst hA1
              clear hc hx hxm
              rcases hxK : x == K with _ | _
              · go_wp2
                go_quiet (fail)
                all_goals go_wp2
                all_goals go_roundw
                case rel => exact ⟨j + 1, by omega, by go_num, below_drewN hb6 _⟩
                case measure => simp [intOf] <;> omega
              · go_wp2
                go_quiet (fail)
                all_goals go_wp2
                all_goals go_roundw
                case rel => exact ⟨j + 1, by omega, by go_num, below_drewN hb6 _⟩
                case measure => simp [intOf] <;> omega
            · obtain rfl : j = n1 := by omega
              have ska := ska6.below hb6
              have skb := skb6.below hb6
              have r1 := r16.below hb6
              replace hbel := hbel.trans (hb6.mono hbel.size)
              clear ska6 skb6 r16 hb6
              have pc := allL wr _ p ga (M) ska (by have := hM40.out;  omega) ⟨#[]⟩ [] rfl (by decide)
              rw [fromM_nil] at pc
              go_wp2_with fail
              refine pc.mono ?_
              clear pc
              rintro _ w6b ⟨A3, n3, c3, rfl, hn3, _, _, r3, kb⟩
              have hn3' : n3 = j := by rw [← hn3]; exact hn1.out
              clear hn3
              obtain ⟨w6, hw6⟩ : ∃ w6 : World, w6 = w6b := ⟨_, rfl⟩
              rw [← hw6] at kb r3 ⊢
              clear hw6
              replace skb := skb.below kb
              replace r1 := r1.below kb
              replace hbel := hbel.trans (kb.mono hbel.size)
              clear kb ska
              subst hn3'
              go_wp2_with fail
              have hfol : Try.prog.follows .mixedOrders = true := by kernel_rfl
              have hS0 : Below W0.heap.size W0 w6.drew := hbel.drew
              refine wp_region_held (S := fun W => Below W0.heap.size W0 W) hfol ?_
              refine wpAnyH_take (i := 0) (v := .int .i64 8) rfl (by kernel_rfl) (by kernel_rfl) (by kernel_rfl) (fun _ _ _ h => h) (.inl ⟨by kernel_rfl, fun W hW => by go_simp⟩) hS0 ?_
              try dsimp only [Act.put]
              try simp only [List.setIfInBounds_toArray, List.set_cons_zero, List.set_cons_succ]
              refine wpAnyH_take (i := 1) (v := .bool false) rfl (by kernel_rfl) (by kernel_rfl) (by kernel_rfl) (fun _ _ _ h => h) (.inl ⟨by kernel_rfl, fun W hW => by go_simp⟩) hS0 ?_
              try dsimp only [Act.put]
              try simp only [List.setIfInBounds_toArray, List.set_cons_zero, List.set_cons_succ]
              refine wpAnyH_take (i := 2) (v := .bool false) rfl (by kernel_rfl) (by kernel_rfl) (by kernel_rfl) (fun _ _ _ h => h) (.inl ⟨by kernel_rfl, fun W hW => by go_simp⟩) hS0 ?_
              try dsimp only [Act.put]
              try simp only [List.setIfInBounds_toArray, List.set_cons_zero, List.set_cons_succ]
              refine wpAnyH_take (i := 3) (v := undef) rfl (by kernel_rfl) (by kernel_rfl) (by kernel_rfl) (fun _ _ _ h => h) (.inr ⟨by kernel_rfl, rfl⟩) hS0 ?_
              try dsimp only [Act.put]
              try simp only [List.setIfInBounds_toArray, List.set_cons_zero, List.set_cons_succ]
              refine wpAnyH_take (i := 4) (v := undef) rfl (by kernel_rfl) (by kernel_rfl) (by kernel_rfl) (fun _ _ _ h => h) (.inr ⟨by kernel_rfl, rfl⟩) hS0 ?_
              try dsimp only [Act.put]
              try simp only [List.setIfInBounds_toArray, List.set_cons_zero, List.set_cons_succ]
              refine wpAnyH_take (i := 5) (v := undef) rfl (by kernel_rfl) (by kernel_rfl) (by kernel_rfl) (fun _ _ _ h => h) (.inr ⟨by kernel_rfl, rfl⟩) hS0 ?_
              try dsimp only [Act.put]
              try simp only [List.setIfInBounds_toArray, List.set_cons_zero, List.set_cons_succ]
              refine wpAnyH_take (i := 6) (v := undef) rfl (by kernel_rfl) (by kernel_rfl) (by kernel_rfl) (fun _ _ _ h => h) (.inr ⟨by kernel_rfl, rfl⟩) hS0 ?_
              try dsimp only [Act.put]
              try simp only [List.setIfInBounds_toArray, List.set_cons_zero, List.set_cons_succ]
              refine wpAnyH_take (i := 7) (v := undef) rfl (by kernel_rfl) (by kernel_rfl) (by kernel_rfl) (fun _ _ _ h => h) (.inr ⟨by kernel_rfl, rfl⟩) hS0 ?_
              try dsimp only [Act.put]
              try simp only [List.setIfInBounds_toArray, List.set_cons_zero, List.set_cons_succ]
              refine wpAnyH_take (i := 8) (v := undef) rfl (by kernel_rfl) (by kernel_rfl) (by kernel_rfl) (fun _ _ _ h => h) (.inr ⟨by kernel_rfl, rfl⟩) hS0 ?_
              try dsimp only [Act.put]
              try simp only [List.setIfInBounds_toArray, List.set_cons_zero, List.set_cons_succ]
              refine wpAnyH_take (i := 9) (v := .bool false) rfl (by kernel_rfl) (by kernel_rfl) (by kernel_rfl) (fun _ _ _ h => h) (.inl ⟨by kernel_rfl, fun W hW => by go_simp⟩) hS0 ?_
              try dsimp only [Act.put]
              try simp only [List.setIfInBounds_toArray, List.set_cons_zero, List.set_cons_succ]
              refine wpAnyH_take (i := 10) (v := .bool false) rfl (by kernel_rfl) (by kernel_rfl) (by kernel_rfl) (fun _ _ _ h => h) (.inl ⟨by kernel_rfl, fun W hW => by go_simp⟩) hS0 ?_
              try dsimp only [Act.put]
              try simp only [List.setIfInBounds_toArray, List.set_cons_zero, List.set_cons_succ]
              refine wpAnyH_take (i := 11) (v := .int .i64 8) rfl (by kernel_rfl) (by kernel_rfl) (by kernel_rfl) (fun _ _ _ h => h) (.inl ⟨by kernel_rfl, fun W hW => by go_simp⟩) hS0 ?_
              try dsimp only [Act.put]
              try simp only [List.setIfInBounds_toArray, List.set_cons_zero, List.set_cons_succ]
              refine wpAnyH_take (i := 12) (v := .bool true) rfl (by kernel_rfl) (by kernel_rfl) (by kernel_rfl) (fun _ _ _ h => h) (.inl ⟨by kernel_rfl, fun W hW => by go_simp⟩) hS0 ?_
              try dsimp only [Act.put]
              try simp only [List.setIfInBounds_toArray, List.set_cons_zero, List.set_cons_succ]
              refine wpAnyH_take (i := 13) (v := .bool true) rfl (by kernel_rfl) (by kernel_rfl) (by kernel_rfl) (fun _ _ _ h => h) (.inl ⟨by kernel_rfl, fun W hW => by go_simp⟩) hS0 ?_
              try dsimp only [Act.put]
              try simp only [List.setIfInBounds_toArray, List.set_cons_zero, List.set_cons_succ]
              refine wpAnyH_take (i := 14) (v := .slice A1 n3 c1) rfl (by kernel_rfl) (by kernel_rfl) (by kernel_rfl) (fun _ _ _ h => h) (.inl ⟨by kernel_rfl, fun W hW => by go_simp⟩) hS0 ?_
              try dsimp only [Act.put]
              try simp only [List.setIfInBounds_toArray, List.set_cons_zero, List.set_cons_succ]
              refine wpAnyH_take (i := 15) (v := .slice A3 n3 c3) rfl (by kernel_rfl) (by kernel_rfl) (by kernel_rfl) (fun _ _ _ h => h) (.inl ⟨by kernel_rfl, fun W hW => by go_simp⟩) hS0 ?_
              try dsimp only [Act.put]
              try simp only [List.setIfInBounds_toArray, List.set_cons_zero, List.set_cons_succ]
              refine wpAnyH_ready (rs := [16]) (by kernel_rfl) (by simp) (AllReadyH.cons rfl (fun K' hK => ?_) AllReadyH.nil)
              go_simp
              go_at_call 12
              refine (same_yes w6.drew A1 A3 n3 c1 c3 M hn1.out (by omega) (r1.below (Below.refl w6.heap.size w6).drew) (r3.below (Below.refl w6.heap.size w6).drew)).mono ?_
              rintro _ w7 ⟨rfl, k7⟩
              have k7' : Below w6.heap.size w6 w7 := (Below.refl w6.heap.size w6).drew.trans k7
              have hS1 : Below W0.heap.size W0 w7 := hbel.trans (k7'.mono hbel.size)
              have skb7 := skb.below k7'
              refine hK.out _ _ hS1 (fun _ => ?_)
              clear hK K'
              try dsimp only [Act.put]
              try simp only [List.setIfInBounds_toArray, List.set_cons_zero, List.set_cons_succ]
              refine wpAnyH_take (i := 17) (v := .bool true) rfl (by kernel_rfl) (by kernel_rfl) (by kernel_rfl) (fun _ _ _ h => h) (.inl ⟨by kernel_rfl, fun W hW => by go_simp⟩) hS1 ?_
              try dsimp only [Act.put]
              try simp only [List.setIfInBounds_toArray, List.set_cons_zero, List.set_cons_succ]
              refine wpAnyH_take (i := 18) (v := .bool true) rfl (by kernel_rfl) (by kernel_rfl) (by kernel_rfl) (fun _ _ _ h => h) (.inl ⟨by kernel_rfl, fun W hW => by go_simp⟩) hS1 ?_
              try dsimp only [Act.put]
              try simp only [List.setIfInBounds_toArray, List.set_cons_zero, List.set_cons_succ]
              refine wpAnyH_take (i := 19) (v := .bool true) rfl (by kernel_rfl) (by kernel_rfl) (by kernel_rfl) (fun _ _ _ h => h) (.inl ⟨by kernel_rfl, fun W hW => by go_simp⟩) hS1 ?_
              try dsimp only [Act.put]
              try simp only [List.setIfInBounds_toArray, List.set_cons_zero, List.set_cons_succ]
              refine wpAnyH_take (i := 20) (v := .pointer (some ⟨q, 0, none⟩)) rfl (by kernel_rfl) (by kernel_rfl) (by kernel_rfl) (fun _ _ _ h => h) (.inl ⟨by kernel_rfl, fun W hW => by go_simp⟩) hS1 ?_
              try dsimp only [Act.put]
              try simp only [List.setIfInBounds_toArray, List.set_cons_zero, List.set_cons_succ]
              refine wpAnyH_take (i := 22) (v := .pointer (some ⟨w.heap.size, 0, none⟩)) rfl (by kernel_rfl) (by kernel_rfl) (by kernel_rfl) (fun _ _ _ h => h) (.inl ⟨by kernel_rfl, fun W hW => by go_simp⟩) hS1 ?_
              try dsimp only [Act.put]
              try simp only [List.setIfInBounds_toArray, List.set_cons_zero, List.set_cons_succ]
              refine wpAnyH_take (i := 23) (v := .slice yA m yc) rfl (by kernel_rfl) (by kernel_rfl) (by kernel_rfl) (fun _ _ _ h => h) (.inl ⟨by kernel_rfl, fun W hW => by have h1 := hxc.out W hW; go_simp⟩) hS1 ?_
              try dsimp only [Act.put]
              try simp only [List.setIfInBounds_toArray, List.set_cons_zero, List.set_cons_succ]
              refine wpAnyH_take (i := 24) (v := .string ⟨K.toArray⟩) rfl (by kernel_rfl) (by kernel_rfl) (by kernel_rfl) (fun _ _ _ h => h) (.inl ⟨by kernel_rfl, fun W hW => by have h1 := kK.out W hW; go_simp⟩) hS1 ?_
              try dsimp only [Act.put]
              try simp only [List.setIfInBounds_toArray, List.set_cons_zero, List.set_cons_succ]
              refine wpAnyH_take (i := 25) (v := .agg #[.string ⟨K.toArray⟩, .int .i64 7]) rfl (by kernel_rfl) (by kernel_rfl) (by kernel_rfl) (fun _ _ _ h => h) (.inl ⟨by kernel_rfl, fun W hW => by go_simp⟩) hS1 ?_
              try dsimp only [Act.put]
              try simp only [List.setIfInBounds_toArray, List.set_cons_zero, List.set_cons_succ]
              refine wpAnyH_ready (rs := [21, 26]) (by kernel_rfl) (by simp) (AllReadyH.cons rfl (fun K' hK => ?_) (AllReadyH.cons rfl (fun K' hK => ?_) AllReadyH.nil))
              · go_simp
                go_at_call 10
                refine (pcb w7 skb7).mono ?_
                rintro _ w8 ⟨A8, n8, c8, rfl, hn8, _, _, r8, k8⟩
                have hn8' : n8 = 1 := hn8.symm
                clear hn8
                subst hn8'
                have hS2 : Below W0.heap.size W0 w8 := hS1.trans (k8.mono hS1.size)
                refine hK.out _ _ hS2 (fun _ => ?_)
                clear hK K'
                try dsimp only [Act.put]
                try simp only [List.setIfInBounds_toArray, List.set_cons_zero, List.set_cons_succ]
                refine wpAnyH_ready (rs := [26]) (by kernel_rfl) (by simp) (AllReadyH.cons rfl (fun K' hK => ?_) AllReadyH.nil)
                go_simp
                have r9 : Rd (w8.alloc (.cells #[.string ⟨K.toArray⟩, .int .i64 7] 36)) 2 (some ⟨w8.heap.size, 0, none⟩) 1 (pairsC [(K, 7)]) := (Blk.new w8 36 #[.string ⟨K.toArray⟩, .int .i64 7]).rd rfl (fun j u hu => by simpa [pairsC, pairC] using hu)
                have hS3 := hS2.alloc hS2.size (.cells #[.string ⟨K.toArray⟩, .int .i64 7] 36)
                refine hK.out _ _ hS3 (fun _ => ?_)
                clear hK K'
                try dsimp only [Act.put]
                try simp only [List.setIfInBounds_toArray, List.set_cons_zero, List.set_cons_succ]
                refine wpAnyH_ready (rs := [27]) (by kernel_rfl) (by simp) (AllReadyH.cons rfl (fun K' hK => ?_) AllReadyH.nil)
                go_simp
                go_at_call 12
                refine (same_yes _ A8 _ 1 c8 1 [(K, 7)] rfl (by omega) (r8.alloc _) r9).mono ?_
                rintro _ w10 ⟨rfl, k10⟩
                have hS4 : Below W0.heap.size W0 w10 := hS3.trans (k10.mono hS3.size)
                refine hK.out _ _ hS4 (fun _ => ?_)
                clear hK K'
                try dsimp only [Act.put]
                try simp only [List.setIfInBounds_toArray, List.set_cons_zero, List.set_cons_succ]
                refine wpAnyH_take (i := 28) (v := .bool true) rfl (by kernel_rfl) (by kernel_rfl) (by kernel_rfl) (fun _ _ _ h => h) (.inl ⟨by kernel_rfl, fun W hW => by go_simp⟩) hS4 ?_
                try dsimp only [Act.put]
                try simp only [List.setIfInBounds_toArray, List.set_cons_zero, List.set_cons_succ]
                refine wpAnyH_take (i := 29) (v := .bool true) rfl (by kernel_rfl) (by kernel_rfl) (by kernel_rfl) (fun _ _ _ h => h) (.inl ⟨by kernel_rfl, fun W hW => by go_simp⟩) hS4 ?_
                try dsimp only [Act.put]
                try simp only [List.setIfInBounds_toArray, List.set_cons_zero, List.set_cons_succ]
                refine wpAnyH_ready (rs := [30]) (by kernel_rfl) (by simp) (AllReadyH.cons rfl (fun K' hK => ?_) AllReadyH.nil)
                go_simp
                go_at_call 7
                refine (lives_any _).mono ?_
                rintro _ w11 ⟨rfl, k11⟩
                have hS5 : Below W0.heap.size W0 w11 := hS4.trans (k11.mono hS4.size)
                refine hK.out _ _ hS5 (fun _ => ?_)
                clear hK K'
                try dsimp only [Act.put]
                try simp only [List.setIfInBounds_toArray, List.set_cons_zero, List.set_cons_succ]
                refine wpAnyH_take (i := 31) (v := .bool true) rfl (by kernel_rfl) (by kernel_rfl) (by kernel_rfl) (fun _ _ _ h => h) (.inl ⟨by kernel_rfl, fun W hW => by go_simp⟩) hS5 ?_
                try dsimp only [Act.put]
                try simp only [List.setIfInBounds_toArray, List.set_cons_zero, List.set_cons_succ]
                refine wpAnyH_ready (rs := [32]) (by kernel_rfl) (by simp) (AllReadyH.cons rfl (fun K' hK => ?_) AllReadyH.nil)
                go_simp
                refine hK.out _ _ hS5 (fun _ => ?_)
                clear hK K'
                try dsimp only [Act.put]
                try simp only [List.setIfInBounds_toArray, List.set_cons_zero, List.set_cons_succ]
                refine wpAnyH_done (by kernel_rfl) ?_ _
                have fin := hb0.trans (hS5.mono hb0.size)
                clear hS0 hS1 hS2 hS3 hS4 hS5
                go_wp2
                go_ret
                exact ⟨rfl, fin⟩
              · go_simp
                have r9 : Rd (w7.alloc (.cells #[.string ⟨K.toArray⟩, .int .i64 7] 36)) 2 (some ⟨w7.heap.size, 0, none⟩) 1 (pairsC [(K, 7)]) := (Blk.new w7 36 #[.string ⟨K.toArray⟩, .int .i64 7]).rd rfl (fun j u hu => by simpa [pairsC, pairC] using hu)
                have hS2 := hS1.alloc hS1.size (.cells #[.string ⟨K.toArray⟩, .int .i64 7] 36)
                have skb8 := skb7.below ((Below.refl w7.heap.size w7).alloc (Nat.le_refl _) (.cells #[.string ⟨K.toArray⟩, .int .i64 7] 36))
                refine hK.out _ _ hS2 (fun _ => ?_)
                clear hK K'
                try dsimp only [Act.put]
                try simp only [List.setIfInBounds_toArray, List.set_cons_zero, List.set_cons_succ]
                refine wpAnyH_ready (rs := [21]) (by kernel_rfl) (by simp) (AllReadyH.cons rfl (fun K' hK => ?_) AllReadyH.nil)
                go_simp
                go_at_call 10
                refine (pcb _ skb8).mono ?_
                rintro _ w8 ⟨A8, n8, c8, rfl, hn8, _, _, r8, k8⟩
                have hn8' : n8 = 1 := hn8.symm
                clear hn8
                subst hn8'
                have hS3 : Below W0.heap.size W0 w8 := hS2.trans (k8.mono hS2.size)
                refine hK.out _ _ hS3 (fun _ => ?_)
                clear hK K'
                try dsimp only [Act.put]
                try simp only [List.setIfInBounds_toArray, List.set_cons_zero, List.set_cons_succ]
                refine wpAnyH_ready (rs := [27]) (by kernel_rfl) (by simp) (AllReadyH.cons rfl (fun K' hK => ?_) AllReadyH.nil)
                go_simp
                go_at_call 12
                refine (same_yes _ A8 _ 1 c8 1 [(K, 7)] rfl (by omega) r8 (r9.below k8)).mono ?_
                rintro _ w10 ⟨rfl, k10⟩
                have hS4 : Below W0.heap.size W0 w10 := hS3.trans (k10.mono hS3.size)
                refine hK.out _ _ hS4 (fun _ => ?_)
                clear hK K'
                try dsimp only [Act.put]
                try simp only [List.setIfInBounds_toArray, List.set_cons_zero, List.set_cons_succ]
                refine wpAnyH_take (i := 28) (v := .bool true) rfl (by kernel_rfl) (by kernel_rfl) (by kernel_rfl) (fun _ _ _ h => h) (.inl ⟨by kernel_rfl, fun W hW => by go_simp⟩) hS4 ?_
                try dsimp only [Act.put]
                try simp only [List.setIfInBounds_toArray, List.set_cons_zero, List.set_cons_succ]
                refine wpAnyH_take (i := 29) (v := .bool true) rfl (by kernel_rfl) (by kernel_rfl) (by kernel_rfl) (fun _ _ _ h => h) (.inl ⟨by kernel_rfl, fun W hW => by go_simp⟩) hS4 ?_
                try dsimp only [Act.put]
                try simp only [List.setIfInBounds_toArray, List.set_cons_zero, List.set_cons_succ]
                refine wpAnyH_ready (rs := [30]) (by kernel_rfl) (by simp) (AllReadyH.cons rfl (fun K' hK => ?_) AllReadyH.nil)
                go_simp
                go_at_call 7
                refine (lives_any _).mono ?_
                rintro _ w11 ⟨rfl, k11⟩
                have hS5 : Below W0.heap.size W0 w11 := hS4.trans (k11.mono hS4.size)
                refine hK.out _ _ hS5 (fun _ => ?_)
                clear hK K'
                try dsimp only [Act.put]
                try simp only [List.setIfInBounds_toArray, List.set_cons_zero, List.set_cons_succ]
                refine wpAnyH_take (i := 31) (v := .bool true) rfl (by kernel_rfl) (by kernel_rfl) (by kernel_rfl) (fun _ _ _ h => h) (.inl ⟨by kernel_rfl, fun W hW => by go_simp⟩) hS5 ?_
                try dsimp only [Act.put]
                try simp only [List.setIfInBounds_toArray, List.set_cons_zero, List.set_cons_succ]
                refine wpAnyH_ready (rs := [32]) (by kernel_rfl) (by simp) (AllReadyH.cons rfl (fun K' hK => ?_) AllReadyH.nil)
                go_simp
                refine hK.out _ _ hS5 (fun _ => ?_)
                clear hK K'
                try dsimp only [Act.put]
                try simp only [List.setIfInBounds_toArray, List.set_cons_zero, List.set_cons_succ]
                refine wpAnyH_done (by kernel_rfl) ?_ _
                have fin := hb0.trans (hS5.mono hb0.size)
                clear hS0 hS1 hS2 hS3 hS4 hS5
                go_wp2
                go_ret
                exact ⟨rfl, fin⟩

/-! ### from the walk to the statement (by tail.py) -/
set_option maxRecDepth 100000 in
theorem lifted (os : Os) (started : os.Started) (H : Type) (enc : TypeId × Value → H) :
    ReturnsInHanded {} Try.checked os 5 .any (Rows.skipsTwoSpec.pre6 enc Try.prog Try.f5 Rows.skipsTwoRow.domain false) (Rows.skipsTwoSpec.post enc Try.prog Try.f5 false true false false) := by
  refine lifted_of (C := Try.checked) (tb := 4) (n := 2) (by kernel_rfl) started (by kernel_rfl) Try.func5 (by kernel_rfl) (by kernel_rfl) rfl (by kernel_rfl) Try.underlying4 (by kernel_rfl)
    (fun ds hd => by match ds, hd with | [d1, d2], _ => exact ⟨rfl, rfl, rfl⟩)
    (ChangeSpec.witness6 (enc := enc) (C := Try.checked) false ⟨#[], #[.slice none 0 0, .agg #[.slice none 0 0, .int .i64 0, .int .i64 0]], []⟩ 8 (by kernel_rfl) (by kernel_rfl) (by kernel_rfl) (by kernel_rfl)) ?_
  intro W base args ds before hval hA hsz
  rw [Try.params5] at hA hval hsz
  obtain ⟨v0, vs0, d0, ds0, p0, q0, rfl, rfl, rfl, h0, r0⟩ := trodAll_cons hA
  obtain ⟨v1, vs1, d1, ds1, p1, q1, rfl, rfl, rfl, h1, r1⟩ := trodAll_cons r0
  obtain ⟨rfl, rfl, rfl⟩ := trodAll_nil r1
  obtain ⟨A0, c0, ls0, rfl, hrd0, hlc0, hls0, hcap0⟩ := open_laids (hval 0 _ _ rfl rfl) h0
  have hc0 := hcap0 hsz 0 rfl rfl
  obtain ⟨y1, rfl, hb1, hlc1, hr1, hcap1⟩ := open_laid (hval 1 _ _ rfl rfl) h1
  have hc1 := hcap1 hsz 1 rfl rfl
  exact walk W A0 c0 ls0 hrd0 (fun y hy => (hls0 y hy).1) (fun y hy => by have := reachBytes_lt; have := hc0 y hy; have := (hls0 y hy).2.1; omega) y1 hb1 (by have := reachBytes_lt; omega) hlc1

theorem over : Rows.skipsTwoRow.holds Try.pinned (OpenSpec.ofChange Rows.skipsTwoSpec) :=
  OpenClaim.holds_of_wide 5 Try.f5 rfl rfl rfl rfl rfl rfl rfl ⟨rfl, rfl, rfl, rfl, rfl⟩ rfl rfl rfl rfl rfl (by kernel_rfl) Try.func5 (by kernel_rfl)
    (of_decide_eq_true (by kernel_rfl)) (by unfold Func.isWrapper; first | (rw [if_pos (by decide +kernel)]; kernel_rfl) | (rw [if_neg (by decide +kernel)]; exact ⟨rfl, rfl⟩))
    (fun os started H enc _ => lifted os started H enc)

theorem proved : Rows.SkipsTwoSaid := over
end Go.Proofs.Ytkijcphkmikdbaa.lawSkipsTwo
