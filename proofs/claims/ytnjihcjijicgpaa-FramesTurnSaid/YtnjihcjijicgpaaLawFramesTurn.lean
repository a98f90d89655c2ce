/- A record one of whose bytes is another one is not got, whichever it is, but the two of a head that tell how many it has: for every input, no condition. -/
import Derived.Test.YtnjihcjijicgpaaFrLaid
import Derived.Test.YtnjihcjijicgpaaLift
import Derived.Test.YtnjihcjijicgpaaStill
set_option linter.unusedSimpArgs false
set_option linter.unusedVariables false
namespace Go.Proofs.Ytnjihcjijicgpaa.lawFramesTurn
open Go Go.RowKit Herb Go.ChangeShapes Go.WideShapes Go.ChangeAt

section
variable {H : Type} {enc : TypeId × Value → H} {W : World} {base b0 : Nat} {spare : Nat → Bool} {held : Bool} {r : Reach}
/-- An argument of two bytes. -/
theorem open_pair8 {v : Value} {d : DataW H} {ps : List MemPlace} (hv : Value.okWide Try.prog W r b0 39 v) (h : DataW.Trod enc Try.prog W base spare held 39 v d ps) :
    ∃ z0 z1 : UInt8, v = .agg #[.int .u8 (z0.toNat : Int), .int .u8 (z1.toNat : Int)] := by
  obtain ⟨cs, rfl, hsz⟩ : ∃ cs, v = .agg cs ∧ cs.size = Try.prog.cellsOf 39 := by
    simp only [Value.okWide, Try.underlying39] at hv
    obtain ⟨cs, h1, h2, _⟩ := hv
    exact ⟨cs, h1, h2⟩
  obtain ⟨fuel, hf⟩ := h
  obtain ⟨xs, n, _, _, hlen, hxs, hf⟩ := DataW.trod_array Try.underlying39 hf
  have c6 : Try.prog.cellsOf 5 = 1 := by kernel_rfl
  have hlen2 : cs.toList.length = 2 := hlen.trans (by kernel_rfl)
  have g : ∀ (i : Nat), i < 2 → ∃ y, xs[i]? = some y := fun i hi => ⟨_, List.getElem?_eq_getElem (by omega)⟩
  obtain ⟨y0, e0⟩ := g 0 (by omega)
  obtain ⟨y1, e1⟩ := g 1 (by omega)
  obtain ⟨a0, h0, _, w0⟩ := DataW.trod_int Try.underlying5 ((hf 0 (by omega)).trans e0)
  obtain ⟨a1, h1, _, w1⟩ := DataW.trod_int Try.underlying5 ((hf 1 (by omega)).trans e1)
  obtain ⟨z0, rfl⟩ := intOf_wf_u8 w0
  obtain ⟨z1, rfl⟩ := intOf_wf_u8 w1
  rw [c6] at h0 h1
  refine ⟨z0, z1, ?_⟩
  obtain ⟨cl⟩ := cs
  match cl, hlen2, h0, h1 with
  | [p, q], _, h0, h1 =>
    simp [Value.cells] at h0 h1
    rw [h0, h1]
end
/-- A byte of a row of one's own is stored. -/
theorem own_set {w : World} {base n g cap : Nat} {e : TypeId} {xs : List Value} (h : w.ownsRow base e 1 (.slice (some ⟨g, 0, none⟩) n cap) n xs) (j : Nat) (hj : j < n) (v : Value) :
    (w.setCell ⟨g, j, none⟩ v).ownsRow base e 1 (.slice (some ⟨g, 0, none⟩) n cap) n (xs.set j v) ∧ w.cell? ⟨g, j, none⟩ = xs[j]? ∧ w.frozen? ⟨g, j, none⟩ = false ∧ base ≤ g := by
  rcases h.2 with ⟨h0, _⟩ | ⟨g', cap', cur, h0, hbg, hg, hnc, hcm, hcs, htake⟩
  · cases h0
  · cases h0
    have hb : Blk w g e cur := hg
    have hs := hb.store j v
    refine ⟨⟨by rw [List.length_set]; exact h.1, .inr ⟨g, cap, _, rfl, hbg, hs, hnc, hcm, by simpa using hcs, ?_⟩⟩, ?_, hb.frozen j, hbg⟩
    · rw [← htake, Array.toList_setIfInBounds, List.take_set]
    · rw [hb.cell j, ← htake, List.getElem?_take, if_pos (by omega)]
      simp

set_option maxRecDepth 100000 in
set_option maxHeartbeats 6400000 in
theorem walk (w : World) (A : Option Addr) (c : Nat) (l : List UInt8) (hl : l.length ≤ 140737488355328) (hb : Bs w A l) (hlc : l.length ≤ c) (hc : c ≤ 140737488355328)
    (A' : Option Addr) (c' : Nat) (r : List UInt8) (hr : r.length ≤ 140737488355328) (hbr : Bs w A' r) (hrc : r.length ≤ c') (hc' : c' ≤ 140737488355328) (z0 z1 : UInt8) :
    Calls Try.prog 5 #[.slice A l.length c, .slice A' r.length c', .agg #[.int .u8 (z0.toNat : Int), .int .u8 (z1.toNat : Int)]] w fun e w' => e = .returned (.bool true) ∧ Below w.heap.size w w' := by
  obtain ⟨n, hn⟩ : ∃ n, l.length = n := ⟨_, rfl⟩
  obtain ⟨m, hm⟩ : ∃ m, r.length = m := ⟨_, rfl⟩
  rw [hn] at hl hlc ⊢
  rw [hm] at hr hrc ⊢
  replace hn := Lib.hid hn
  replace hm := Lib.hid hm
  have hz0 := byte_lt z0
  have hB0 := (Below.refl w.heap.size w).alloc (Nat.le_refl _) (Obj.cells #[.int .u8 (z0.toNat : Int), .int .u8 (z1.toNat : Int)] 39)
  have kz := Blk.new w 39 #[.int .u8 (z0.toNat : Int), .int .u8 (z1.toNat : Int)]
  by_cases hbig : 10000 < n + m
  · have d1 : decide ((10000 : Int) < (n : Int) + (m : Int)) = true := decide_eq_true (by omega)
    go_enter Try.func5, Try.ntmps5
    go_wp2_with fail
    refine (lives_any _).mono ?_
    rintro _ w1 ⟨rfl, b1⟩
    go_wp2
    go_ret
    exact ⟨rfl, hB0.trans (b1.mono hB0.size)⟩
  have d1 : decide ((10000 : Int) < (n : Int) + (m : Int)) = false := decide_eq_false (by omega)
  by_cases hz : z1 = 0
  · subst hz
    go_enter Try.func5, Try.ntmps5
    go_wp2_with fail
    refine (lives_any _).mono ?_
    rintro _ w1 ⟨rfl, b1⟩
    go_wp2
    go_ret
    exact ⟨rfl, hB0.trans (b1.mono hB0.size)⟩
  have d2 : ((z1.toNat : Int) == 0) = false := by
    rw [beq_eq_false_iff_ne]
    intro h
    exact hz (UInt8.toNat_inj.1 (by rw [show (0 : UInt8).toNat = 0 from rfl]; omega))
  obtain ⟨W0, hW0⟩ : ∃ W0, w.alloc (Obj.cells #[.int .u8 (z0.toNat : Int), .int .u8 (z1.toNat : Int)] 39) = W0 := ⟨_, rfl⟩
  rw [hW0] at hB0 kz
  have hb0 := hb.below hB0
  have hbr0 := hbr.below hB0
  have hKlt := kz.lt
  have c0 : W0.cell? ⟨w.heap.size, 0, none⟩ = some (.int .u8 (z0.toNat : Int)) := kz.cell 0
  have c1 : W0.cell? ⟨w.heap.size, 1, none⟩ = some (.int .u8 (z1.toNat : Int)) := kz.cell 1
  have hB1 := (Below.refl W0.heap.size W0).alloc (Nat.le_refl _) (Obj.cells #[.slice A' m c'] 22)
  have rdR : Rd (W0.alloc (Obj.cells #[.slice A' m c'] 22)) 1 (some ⟨W0.heap.size, 0, none⟩) 1 (rwsC [⟨A', c', r⟩]) := by
    have h := Rd.one W0 22 (.slice A' m c')
    have e : rwsC [⟨A', c', r⟩] = [.slice A' m c'] := by rw [← hm.out]; rfl
    rw [e]
    exact h
  have hbk : Fr.bulk l ([(⟨A', c', r⟩ : Rw)].map Rw.t) ≤ 20010 := by
    show l.length + ((r.length + 10) + 0) ≤ 20010
    rw [hn.out, hm.out]
    omega
  have pl := laid_any _ A n c l hn.out (hb0.below hB1) _ 1 1 [⟨A', c', r⟩] rfl rdR (by
    intro y hy
    simp only [List.mem_singleton] at hy
    subst hy
    exact ⟨hbr0.below hB1, by show r.length ≤ c'; rw [hm.out]; exact hrc⟩) hbk
  have e0 : Fr.laidL l ([(⟨A', c', r⟩ : Rw)].map Rw.t) = l ++ Fr.put l.length r := rfl
  have e1 : Fr.endsK l ([(⟨A', c', r⟩ : Rw)].map Rw.t) 1 = [(l ++ Fr.put l.length r).length] := rfl
  rw [e1, e0] at pl
  have hple := Fr.put_length_le n r
  have hppos := Fr.put_pos n r
  rw [hm.out] at hple
  replace pl := Lib.hid pl
  clear hbk e0 e1 rdR hbr0
  go_enter Try.func5, Try.ntmps5
  go_wp2_with fail
  try simp only [hW0]
  clear hW0
  refine pl.out.mono ?_
  rintro _ w2 ⟨vb, ve, k, rfl, hk, hownb, howne, b2⟩
  rw [hn.out] at hk hownb howne
  rw [hk] at howne
  have hkn : k = n + (Fr.put n r).length := by rw [← hk, List.length_append, hn.out]
  obtain ⟨gb, cb, rfl, hgb, hgb2⟩ := hownb.form (by omega)
  obtain ⟨ge, ce, rfl, hge, hge2⟩ := howne.form (by omega)
  have hB2 := hB1.trans (b2.mono hB1.size)
  have ce0 : w2.cell? ⟨ge, 0, none⟩ = some (.int .i64 (k : Int)) := by
    have := howne.cells (g := ge) rfl 0 _ rfl
    rwa [add_eq] at this
  have d3 : decide (k ≤ n) = false := decide_eq_false (by omega)
  clear c0 c1
  replace kz := kz.below hB2 hKlt
  have c0 : w2.cell? ⟨w.heap.size, 0, none⟩ = some (.int .u8 (z0.toNat : Int)) := kz.cell 0
  have c1 : w2.cell? ⟨w.heap.size, 1, none⟩ = some (.int .u8 (z1.toNat : Int)) := kz.cell 1
  obtain ⟨D, hD⟩ : ∃ D : Nat, (k : Int) - (n : Int) = (D : Int) := ⟨k - n, by omega⟩
  have hD7 : 7 ≤ D := by omega
  have hDb : D ≤ 300000 := by omega
  obtain ⟨R, hR⟩ : ∃ R : Nat, z0.toNat * 37 % D = R := ⟨_, rfl⟩
  have hRD : R < D := by rw [← hR]; exact Nat.mod_lt _ (by omega)
  have hRi : (z0.toNat : Int) * 37 % (D : Int) = (R : Int) := by rw [← hR]; simp
  obtain ⟨q, hq⟩ : ∃ q, n + R = q := ⟨_, rfl⟩
  have hqi : (n : Int) + (R : Int) = (q : Int) := by omega
  have hqb : q ≤ 400000 := by omega
  have hqk : q < k := by omega
  have hqn : n ≤ q := by omega
  replace hkn := Lib.hid hkn
  replace hk := Lib.hid hk
  clear pl hR hq
  go_wp2_with fail
  go_quiet (fail)
  replace ce0 := Lib.hid ce0
  clear hD hRi hqi d1 d3
  have hgl := Fr.gap_le n
  obtain ⟨t, ht⟩ : ∃ t, n + Fr.gap n = t := ⟨_, rfl⟩
  have htd : (256 - n % 256 < 7 ∧ ((n : Int) / 256 + 1) * 256 = (t : Int)) ∨ (¬ 256 - n % 256 < 7 ∧ n = t) := by
    rw [← ht]
    unfold Fr.gap
    split <;> omega
  obtain ⟨M, hM⟩ : ∃ M : Nat, (n : Int) % 256 = (M : Int) := ⟨n % 256, by omega⟩
  obtain ⟨Q, hQ⟩ : ∃ Q : Nat, (q : Int) / 256 = (Q : Int) := ⟨q / 256, by omega⟩
  obtain ⟨T, hT⟩ : ∃ T : Nat, (t : Int) / 256 = (T : Int) := ⟨t / 256, by omega⟩
  obtain ⟨w3, hw3⟩ : ∃ w3 : World, w2.drewN nq = w3 := ⟨_, rfl⟩
  have hown3 : w3.ownsRow (W0.alloc (Obj.cells #[.slice A' m c'] 22)).heap.size 5 1 (.slice (some ⟨gb, 0, none⟩) k cb) k (bvs (l ++ Fr.put n r)) := by rw [← hw3]; exact hownb
  have hB3 : Below w.heap.size w w3 := by rw [← hw3]; exact below_drewN (hB0.trans (hB2.mono hB0.size)) nq
  have kz3 : Blk w3 w.heap.size 39 #[.int .u8 (z0.toNat : Int), .int .u8 (z1.toNat : Int)] := by rw [← hw3]; exact kz
  rw [hw3]
  clear hw3 kz c0 c1
  obtain ⟨y, hy⟩ : ∃ y, (l ++ Fr.put n r).getD q 0 = y := ⟨_, rfl⟩
  have hql : q < (l ++ Fr.put n r).length := by rw [hk.out]; exact hqk
  have hyq : (bvs (l ++ Fr.put n r))[q]? = some (.int .u8 (y.toNat : Int)) := by
    rw [bvs_get hql]
    have : (l ++ Fr.put n r)[q] = y := by rw [← hy, List.getD, List.getElem?_eq_getElem hql]; rfl
    rw [this]
    rfl
  obtain ⟨hown4, hcb, hfb, hgb3⟩ := own_set (w := w3.drew) (own_drew hown3) q hqk (.int .u8 ((y ^^^ z1).toNat : Int))
  rw [hyq] at hcb
  have hc1 : w3.drew.cell? ⟨w.heap.size, 1, none⟩ = some (.int .u8 (z1.toNat : Int)) := kz3.cell 1
  have hxor : bits .xor .u8 (y.toNat : Int) (z1.toNat : Int) = ((y ^^^ z1).toNat : Int) := by rw [u8_xor_nat _ _ y.toNat_lt z1.toNat_lt, UInt8.toNat_xor]
  have hset : (bvs (l ++ Fr.put n r)).set q (.int .u8 ((y ^^^ z1).toNat : Int)) = bvs ((l ++ Fr.put n r).set q (y ^^^ z1)) := by
    unfold bvs
    rw [List.map_set]
    rfl
  rw [hset] at hown4
  have hBg : w.heap.size ≤ gb := by have := hB0.size; simp at hgb3; omega
  have hB4 : Below w.heap.size w (w3.drew.setCell ⟨gb, q, none⟩ (.int .u8 ((y ^^^ z1).toNat : Int))) := hB3.drew.setCell hBg _
  have hno0 : Fr.PlaceOk n q → Calls Try.prog 10 #[.slice (some ⟨gb, 0, none⟩) k cb, .int .i64 (n : Int)] (w3.drew.setCell ⟨gb, q, none⟩ (.int .u8 ((y ^^^ z1).toNat : Int))) fun e w' => ∃ A5 k5 cp5, ∃ er : Int, e = .returned (.tuple #[.slice A5 k5 cp5, .int .i64 0, .int .i64 er]) ∧ k5 = 0 ∧ (er != 0) = true ∧ Below (w3.drew.setCell ⟨gb, q, none⟩ (.int .u8 ((y ^^^ z1).toNat : Int))).heap.size (w3.drew.setCell ⟨gb, q, none⟩ (.int .u8 ((y ^^^ z1).toNat : Int))) w' := by
    intro hpo
    have hdr : (l ++ Fr.put n r).drop n = Fr.put n r ++ [] := by
      have h := hn.out
      rw [List.append_nil, List.drop_append_of_le_length (by omega), List.drop_of_length_le (by omega), List.nil_append]
    have hne := Fr.get_turn n r (l ++ Fr.put n r) [] q (y ^^^ z1) hdr hqn (by have := hkn.out; omega) hpo (by
      rw [hy]
      intro h
      apply hz
      have h2 : y ^^^ y = y ^^^ (y ^^^ z1) := by rw [← h]
      rw [UInt8.xor_self, ← UInt8.xor_assoc, UInt8.xor_self, UInt8.zero_xor] at h2
      exact h2.symm)
    obtain ⟨e1, e2⟩ := Fr.get_err _ _ hne
    obtain ⟨er, her⟩ : ∃ er, (Fr.get ((l ++ Fr.put n r).set q (y ^^^ z1)) n).2.2 = er := ⟨_, rfl⟩
    have hres : Fr.get ((l ++ Fr.put n r).set q (y ^^^ z1)) n = ([], 0, er) := by
      rw [← e1, ← e2, ← her]
    rw [her] at hne
    refine (get_at _ _ k cb _ (by rw [List.length_set]; exact hk.out) (by have := hkn.out; omega) (own_cap hown4).1 (Bs.of_own hown4).2 n (by omega) [] 0 er hres).mono ?_
    rintro _ w5 ⟨A5, k5, cp5, rfl, hk5, _, b5⟩
    exact ⟨A5, k5, k5, (er : Int), rfl, hk5.symm, by rw [bne_iff_ne]; omega, b5⟩
  replace hno0 := Lib.hid hno0
  clear hown4 hset hyq hown3 hownb howne hgb hge hge2 hgb2 b2 hB2 hB1 hB0 hgb3 kz3 hy
  replace hql := Lib.hid hql
  rcases htd with ⟨h7, hti⟩ | ⟨h7, hti⟩
  · have d4 : decide ((256 : Int) - (M : Int) < 7) = true := decide_eq_true (by omega)
    have hM2 : M ≤ 255 := by omega
    have htb : t ≤ 400000 := by omega
    have ht1 : n + Fr.gap n = t := ht
    have hTn : t / 256 = T := by omega
    have hQn : q / 256 = Q := by omega
    replace ht1 := Lib.hid ht1
    replace hTn := Lib.hid hTn
    replace hQn := Lib.hid hQn
    clear ht hgl h7
    have key : ∀ pl : Int, ((T < Q ∧ pl = (q : Int) % 256) ∨ (¬ T < Q ∧ pl = (q : Int) - (t : Int))) → pl ≠ 4 → pl ≠ 5 → Fr.PlaceOk n q := by
      intro pl h h4 h5
      unfold Fr.PlaceOk
      rw [ht1.out, hTn.out]
      have a1 := hTn.out
      have a2 := hQn.out
      constructor
      · intro h1
        rcases h with ⟨h2, h3⟩ | ⟨h2, h3⟩ <;> omega
      · intro h1
        rcases h with ⟨h2, h3⟩ | ⟨h2, h3⟩ <;> omega
    have hpl : ∃ pl : Int, ((T < Q ∧ pl = (q : Int) % 256) ∨ (¬ T < Q ∧ pl = (q : Int) - (t : Int))) := by
      by_cases hTQ : T < Q
      · exact ⟨_, .inl ⟨hTQ, rfl⟩⟩
      · exact ⟨_, .inr ⟨hTQ, rfl⟩⟩
    obtain ⟨pl, hpl⟩ := hpl
    have hok := key pl hpl
    replace hok := Lib.hid hok
    clear key
    rcases hpl with ⟨hTQ, hpl⟩ | ⟨hTQ, hpl⟩
    · have d5 : decide ((T : Int) < (Q : Int)) = true := decide_eq_true (by omega)
      have hpl' : (q : Int) % 256 = pl := hpl.symm
      clear hpl
      by_cases h4 : pl = 4
      · subst h4
        go_wp2_with fail
        refine (lives_any _).mono ?_
        rintro _ w4 ⟨rfl, b4⟩
        go_wp2
        go_ret
        exact ⟨rfl, hB3.trans (b4.mono hB3.size)⟩
      by_cases h5 : pl = 5
      · subst h5
        go_wp2_with fail
        refine (lives_any _).mono ?_
        rintro _ w4 ⟨rfl, b4⟩
        go_wp2
        go_ret
        exact ⟨rfl, hB3.trans (b4.mono hB3.size)⟩
      have e4 : (pl == 4) = false := by simpa using h4
      have e5 : (pl == 5) = false := by simpa using h5
      have hno := hno0.out (hok.out h4 h5)
      replace hno := Lib.hid hno
      clear hok h4 h5
      go_wp2_with fail
      refine still_tail 10 (by kernel_rfl) (by kernel_rfl) ?_
      simp only [List.take_succ_cons, List.take_zero, List.drop_succ_cons, List.drop_zero]
      iterate 10 still_step
      refine wpStill_nil ?_
      go_wp2_with fail
      refine hno.out.mono ?_
      rintro _ w5 ⟨A5, k5, cp5, er, rfl, hk5, her, b5⟩
      subst hk5
      have hB5 := hB4.trans (b5.mono hB4.size)
      go_wp2_with fail
      refine (lives_any w5).mono ?_
      rintro _ w6 ⟨rfl, b6⟩
      go_wp2
      go_ret
      exact ⟨rfl, hB5.trans (b6.mono hB5.size)⟩
    · have d5 : decide ((T : Int) < (Q : Int)) = false := decide_eq_false (by omega)
      have hpl' : (q : Int) - (t : Int) = pl := hpl.symm
      clear hpl
      by_cases h4 : pl = 4
      · subst h4
        go_wp2_with fail
        refine (lives_any _).mono ?_
        rintro _ w4 ⟨rfl, b4⟩
        go_wp2
        go_ret
        exact ⟨rfl, hB3.trans (b4.mono hB3.size)⟩
      by_cases h5 : pl = 5
      · subst h5
        go_wp2_with fail
        refine (lives_any _).mono ?_
        rintro _ w4 ⟨rfl, b4⟩
        go_wp2
        go_ret
        exact ⟨rfl, hB3.trans (b4.mono hB3.size)⟩
      have e4 : (pl == 4) = false := by simpa using h4
      have e5 : (pl == 5) = false := by simpa using h5
      have hno := hno0.out (hok.out h4 h5)
      replace hno := Lib.hid hno
      clear hok h4 h5
      go_wp2_with fail
      refine still_tail 10 (by kernel_rfl) (by kernel_rfl) ?_
      simp only [List.take_succ_cons, List.take_zero, List.drop_succ_cons, List.drop_zero]
      iterate 10 still_step
      refine wpStill_nil ?_
      go_wp2_with fail
      refine hno.out.mono ?_
      rintro _ w5 ⟨A5, k5, cp5, er, rfl, hk5, her, b5⟩
      subst hk5
      have hB5 := hB4.trans (b5.mono hB4.size)
      go_wp2_with fail
      refine (lives_any w5).mono ?_
      rintro _ w6 ⟨rfl, b6⟩
      go_wp2
      go_ret
      exact ⟨rfl, hB5.trans (b6.mono hB5.size)⟩
  · have d4 : decide ((256 : Int) - (M : Int) < 7) = false := decide_eq_false (by omega)
    have hM2 : M ≤ 255 := by omega
    have htb : n ≤ 400000 := by omega
    subst hti
    have ht1 : n + Fr.gap n = n := ht
    have hTn : n / 256 = T := by omega
    have hQn : q / 256 = Q := by omega
    replace ht1 := Lib.hid ht1
    replace hTn := Lib.hid hTn
    replace hQn := Lib.hid hQn
    clear ht hgl h7
    have key : ∀ pl : Int, ((T < Q ∧ pl = (q : Int) % 256) ∨ (¬ T < Q ∧ pl = (q : Int) - (n : Int))) → pl ≠ 4 → pl ≠ 5 → Fr.PlaceOk n q := by
      intro pl h h4 h5
      unfold Fr.PlaceOk
      rw [ht1.out, hTn.out]
      have a1 := hTn.out
      have a2 := hQn.out
      constructor
      · intro h1
        rcases h with ⟨h2, h3⟩ | ⟨h2, h3⟩ <;> omega
      · intro h1
        rcases h with ⟨h2, h3⟩ | ⟨h2, h3⟩ <;> omega
    have hpl : ∃ pl : Int, ((T < Q ∧ pl = (q : Int) % 256) ∨ (¬ T < Q ∧ pl = (q : Int) - (n : Int))) := by
      by_cases hTQ : T < Q
      · exact ⟨_, .inl ⟨hTQ, rfl⟩⟩
      · exact ⟨_, .inr ⟨hTQ, rfl⟩⟩
    obtain ⟨pl, hpl⟩ := hpl
    have hok := key pl hpl
    replace hok := Lib.hid hok
    clear key
    rcases hpl with ⟨hTQ, hpl⟩ | ⟨hTQ, hpl⟩
    · have d5 : decide ((T : Int) < (Q : Int)) = true := decide_eq_true (by omega)
      have hpl' : (q : Int) % 256 = pl := hpl.symm
      clear hpl
      by_cases h4 : pl = 4
      · subst h4
        go_wp2_with fail
        refine (lives_any _).mono ?_
        rintro _ w4 ⟨rfl, b4⟩
        go_wp2
        go_ret
        exact ⟨rfl, hB3.trans (b4.mono hB3.size)⟩
      by_cases h5 : pl = 5
      · subst h5
        go_wp2_with fail
        refine (lives_any _).mono ?_
        rintro _ w4 ⟨rfl, b4⟩
        go_wp2
        go_ret
        exact ⟨rfl, hB3.trans (b4.mono hB3.size)⟩
      have e4 : (pl == 4) = false := by simpa using h4
      have e5 : (pl == 5) = false := by simpa using h5
      have hno := hno0.out (hok.out h4 h5)
      replace hno := Lib.hid hno
      clear hok h4 h5
      go_wp2_with fail
      refine still_tail 10 (by kernel_rfl) (by kernel_rfl) ?_
      simp only [List.take_succ_cons, List.take_zero, List.drop_succ_cons, List.drop_zero]
      iterate 10 still_step
      refine wpStill_nil ?_
      go_wp2_with fail
      refine hno.out.mono ?_
      rintro _ w5 ⟨A5, k5, cp5, er, rfl, hk5, her, b5⟩
      subst hk5
      have hB5 := hB4.trans (b5.mono hB4.size)
      go_wp2_with fail
      refine (lives_any w5).mono ?_
      rintro _ w6 ⟨rfl, b6⟩
      go_wp2
      go_ret
      exact ⟨rfl, hB5.trans (b6.mono hB5.size)⟩
    · have d5 : decide ((T : Int) < (Q : Int)) = false := decide_eq_false (by omega)
      have hpl' : (q : Int) - (n : Int) = pl := hpl.symm
      clear hpl
      by_cases h4 : pl = 4
      · subst h4
        go_wp2_with fail
        refine (lives_any _).mono ?_
        rintro _ w4 ⟨rfl, b4⟩
        go_wp2
        go_ret
        exact ⟨rfl, hB3.trans (b4.mono hB3.size)⟩
      by_cases h5 : pl = 5
      · subst h5
        go_wp2_with fail
        refine (lives_any _).mono ?_
        rintro _ w4 ⟨rfl, b4⟩
        go_wp2
        go_ret
        exact ⟨rfl, hB3.trans (b4.mono hB3.size)⟩
      have e4 : (pl == 4) = false := by simpa using h4
      have e5 : (pl == 5) = false := by simpa using h5
      have hno := hno0.out (hok.out h4 h5)
      replace hno := Lib.hid hno
      clear hok h4 h5
      go_wp2_with fail
      refine still_tail 10 (by kernel_rfl) (by kernel_rfl) ?_
      simp only [List.take_succ_cons, List.take_zero, List.drop_succ_cons, List.drop_zero]
      iterate 10 still_step
      refine wpStill_nil ?_
      go_wp2_with fail
      refine hno.out.mono ?_
      rintro _ w5 ⟨A5, k5, cp5, er, rfl, hk5, her, b5⟩
      subst hk5
      have hB5 := hB4.trans (b5.mono hB4.size)
      go_wp2_with fail
      refine (lives_any w5).mono ?_
      rintro _ w6 ⟨rfl, b6⟩
      go_wp2
      go_ret
      exact ⟨rfl, hB5.trans (b6.mono hB5.size)⟩

/-! ### from the walk to the statement (by tail.py) -/
set_option maxRecDepth 100000 in
theorem lifted (os : Os) (started : os.Started) (H : Type) (enc : TypeId × Value → H) :
    ReturnsInHanded {} Try.checked os 5 .any (Rows.framesTurnSpec.pre6 enc Try.prog Try.f5 Rows.framesTurnRow.domain false) (Rows.framesTurnSpec.post enc Try.prog Try.f5 false true false false) := by
  refine lifted_of (C := Try.checked) (tb := 4) (n := 3) (by kernel_rfl) started (by kernel_rfl) Try.func5 (by kernel_rfl) (by kernel_rfl) rfl (by kernel_rfl) Try.underlying4 (by kernel_rfl)
    (fun ds hd => by match ds, hd with | [d1, d2, d3], _ => exact ⟨rfl, rfl, rfl⟩)
    (ChangeSpec.witness6 (enc := enc) (C := Try.checked) false ⟨#[], #[.slice none 0 0, .slice none 0 0, .agg #[.int .u8 0, .int .u8 0]], []⟩ 8 (by kernel_rfl) (by kernel_rfl) (by kernel_rfl) (by kernel_rfl)) ?_
  intro W base args ds before hval hA hsz
  rw [Try.params5] at hA hval hsz
  obtain ⟨v0, vs0, d0, ds0, p0, q0, rfl, rfl, rfl, h0, r0⟩ := trodAll_cons hA
  obtain ⟨v1, vs1, d1, ds1, p1, q1, rfl, rfl, rfl, h1, r1⟩ := trodAll_cons r0
  obtain ⟨v2, vs2, d2, ds2, p2, q2, rfl, rfl, rfl, h2, r2⟩ := trodAll_cons r1
  obtain ⟨rfl, rfl, rfl⟩ := trodAll_nil r2
  obtain ⟨A0, c0, l0, rfl, hb0, hlc0, _, hcap0⟩ := open_bytes Try.underlying22 Try.underlying5 (by kernel_rfl) (by kernel_rfl) (hval 0 _ _ rfl rfl) h0
  have hc0 := hcap0 hsz 0 rfl rfl
  obtain ⟨A1, c1, l1, rfl, hb1, hlc1, _, hcap1⟩ := open_bytes Try.underlying22 Try.underlying5 (by kernel_rfl) (by kernel_rfl) (hval 1 _ _ rfl rfl) h1
  have hc1 := hcap1 hsz 1 rfl rfl
  obtain ⟨x2, y2, rfl⟩ := open_pair8 (hval 2 _ _ rfl rfl) h2
  exact walk W A0 c0 l0 (by have := reachBytes_lt; omega) hb0 hlc0 (by have := reachBytes_lt; omega) A1 c1 l1 (by have := reachBytes_lt; omega) hb1 hlc1 (by have := reachBytes_lt; omega) x2 y2

theorem over : Rows.framesTurnRow.holds Try.pinned (OpenSpec.ofChange Rows.framesTurnSpec) :=
  OpenClaim.holds_of_wide 5 Try.f5 rfl rfl rfl rfl rfl rfl rfl ⟨rfl, rfl, rfl, rfl, rfl⟩ rfl rfl rfl rfl rfl (by kernel_rfl) Try.func5 (by kernel_rfl)
    (of_decide_eq_true (by kernel_rfl)) (by unfold Func.isWrapper; first | (rw [if_pos (by decide +kernel)]; kernel_rfl) | (rw [if_neg (by decide +kernel)]; exact ⟨rfl, rfl⟩))
    (fun os started H enc _ => lifted os started H enc)

theorem proved : Rows.FramesTurnSaid := over
end Go.Proofs.Ytnjihcjijicgpaa.lawFramesTurn
