/- Of facts in the same place that of the earliest list is told first: for every input. -/
import Derived.Test.YtnlmchbigpjamaaJnLives
import Derived.Test.YtnlmchbigpjamaaJnArg
import Derived.BigQuiet
import Derived.Deep.QuietTactic
set_option linter.unusedSimpArgs false
set_option linter.unusedVariables false
namespace Herb.Jn
open Go Go.RowKit Herb
theorem cmpFt_li (f : Ft) (a b : Nat) : cmpFt { f with li := a } { f with li := b } = 0 := cmpF_self _ _ _ _
theorem place_merge : ∀ (m : Nat) (xs : List Ft), (∀ x ∈ xs, ∀ y ∈ xs, cmpFt x y = 0) → Merge (List.replicate m [] ++ xs.map (fun x => [x])) xs
  | m, [], _ => Merge.done _ (by simp)
  | m, x :: xs, h => by
    refine Merge.step _ m x [] xs (by simp) (fun k g u hk => ?_) ?_
    · rw [List.getElem?_append] at hk
      split at hk
      · rename_i hlt
        rw [List.getElem?_replicate, if_pos (by simpa using hlt)] at hk
        cases hk
      · rename_i hge
        have hg : g ∈ x :: xs := by
          obtain ⟨y, hy, e⟩ := List.mem_map.1 (List.mem_of_getElem? hk)
          cases e
          exact hy
        exact .inr ⟨h x (by simp) g hg, by simpa using hge⟩
    · have e : (List.replicate m [] ++ (x :: xs).map (fun x => [x])).set m [] = List.replicate (m + 1) [] ++ xs.map (fun x => [x]) := by
        rw [List.set_append_right _ _ (by simp)]
        simp [List.replicate_succ', List.append_assoc]
      rw [e]
      exact place_merge (m + 1) xs (fun a ha b hb => h a (by simp [ha]) b (by simp [hb]))
end Herb.Jn
namespace Go.Proofs.Ytnlmchbigpjamaa.lawJoinsPlace
open Go Go.RowKit Go.Shelf Herb Herb.Jn Go.ChangeShapes Go.WideShapes Go.ChangeAt
/-- The lists of one fact each. -/
def One (wr : World) (Bf : Nat) (vw : Value) (x : Sl) : Prop := ∃ g f, x.A = some ⟨g, 0, none⟩ ∧ x.fs = [f] ∧ Blk wr g 44 f.cells.toArray ∧ Bf < g ∧ some g ≠ vw.ownBlock
theorem own_apart {w : World} {base base' n n' size size' : Nat} {e e' : TypeId} {v v' : Value} {xs xs' : List Value} (h : w.ownsRow base e size v n xs) (h' : w.ownsRow base' e' size' v' n' xs') (hne : e' ≠ e) : ∀ x, v'.ownBlock = some x → some x ≠ v.ownBlock := fun x hx => by
  rcases h'.2 with ⟨rfl, _⟩ | ⟨g, cap, cur, rfl, _, hg, _⟩
  · cases hx
  · simp only [Value.ownBlock, Option.some.injEq] at hx
    subst hx
    exact own_neJ h hg hne
theorem slInfo : (Try.prog.info? 26).map (fun i => (i.zero, i.size, i.bytes)) = some (some (.slice none 0 0), 1, 24) := by kernel_rfl
theorem One.fs {wr : World} {Bf : Nat} {vw : Value} {x : Sl} (h : One wr Bf vw x) : Fs wr x.A x.fs := by
  obtain ⟨g, f, h1, h2, h3, _⟩ := h
  rw [h1, h2]
  exact h3.rd rfl (fun j u hu => by simpa [ftC] using hu)
theorem One.keep {S : Nat → Prop} {X Y : World} {Bf : Nat} {v : Value} {x : Sl} (h : One X Bf v x) (hk : KeepBut S X Y) (hs : ∀ g cs, Blk X g 44 cs → Bf < g → some g ≠ v.ownBlock → ¬ S g) : One Y Bf v x := by
  obtain ⟨g, f, h1, h2, h3, h4, h5⟩ := h
  exact ⟨g, f, h1, h2, hk.blk h3 (hs g _ h3 h4 h5), h4, h5⟩
theorem One.val {X : World} {Bf K : Nat} {v v' : Value} {x : Sl} (h : One X Bf v x) (hv : v'.ownBlock = v.ownBlock ∨ v'.ownBlock = some K) (hK : X.heap.size ≤ K) : One X Bf v' x := by
  obtain ⟨g, f, h1, h2, h3, h4, h5⟩ := h
  refine ⟨g, f, h1, h2, h3, h4, ?_⟩
  rcases hv with e | e
  · rw [e]; exact h5
  · rw [e]
    intro e'
    injection e' with e'
    have := h3.lt
    omega
theorem One.step {X Y : World} {Bf : Nat} {v v' : Value} {x : Sl} (h : One X Bf v x) (hk : KeepBut (fun x => some x = v.ownBlock) X Y) (hl : v'.ownBlock = v.ownBlock ∨ v'.ownBlock = some X.heap.size) : One Y Bf v' x := by
  have h2 := h.val hl (Nat.le_refl _)
  obtain ⟨g, f, h1, h2', h3, h4, h5⟩ := h
  obtain ⟨g', f', e1, e2, e3, e4, e5⟩ := h2
  rw [h1] at e1
  cases e1
  exact ⟨g, f, h1, h2', hk.blk h3 h5, h4, e5⟩
set_option maxRecDepth 100000 in
set_option maxHeartbeats 6400000 in
theorem walk (w : World) (fk fv : ByteArray) (va se li ki : Nat) (hva : va < 4294967296) (hse : se < 18446744073709551616) (hli : li < 18446744073709551616) (hki : ki < 256) (A : Option Addr) (c : Nat) (zs : List Nat) (hr : Rd w 1 A zs.length (zs.map fun (z : Nat) => Value.int .u64 (z : Int))) (hzl : zs.length ≤ 9223372036854775807) :
    Calls Try.prog 6 #[.agg #[.string fk, .int .u32 (va : Int), .int .u64 (se : Int), .int .u64 (li : Int), .int .u8 (ki : Int), .string fv], .slice A zs.length c] w fun e w' => e = .returned (.bool true) ∧ Below w.heap.size w w' := by
  obtain ⟨n, hn⟩ : ∃ n, zs.length = n := ⟨_, rfl⟩
  rw [hn] at hr hzl ⊢
  obtain ⟨Bf, hBf⟩ : ∃ Bf, w.heap.size = Bf := ⟨_, rfl⟩
  obtain ⟨w1, hw1⟩ : ∃ w1, w.alloc (.cells #[.string fk, .int .u32 (va : Int), .int .u64 (se : Int), .int .u64 (li : Int), .int .u8 (ki : Int), .string fv] 44) = w1 := ⟨_, rfl⟩
  have b1 : Below Bf w w1 := by rw [← hw1, ← hBf]; exact (Below.refl _ _).alloc (Nat.le_refl _) _
  have k1 : Blk w1 Bf 44 #[.string fk, .int .u32 (va : Int), .int .u64 (se : Int), .int .u64 (li : Int), .int .u8 (ki : Int), .string fv] := by rw [← hw1, ← hBf]; exact Blk.new w _ _
  have hs1 : w1.heap.size = Bf + 1 := by rw [← hw1, ← hBf]; simp
  obtain ⟨fsL, hfsL⟩ : ∃ fsL, zs.map (fun z => (⟨fk, va, se, z, ki, fv⟩ : Ft)) = fsL := ⟨_, rfl⟩
  replace hn := Lib.hid hn
  replace hw1 := Lib.hid hw1
  replace hBf' := Lib.hid hBf
  replace hfsL := Lib.hid hfsL
  rw [hBf]
  clear hBf
  go_enter Try.func6, Try.ntmps6
  by_cases hbig : 20 < n
  · have d1 : decide ((20 : Int) < (n : Int)) = true := decide_eq_true (by omega)
    go_wp2_with (first | rw [hBf'.out] | rw [hw1.out] | fail)
    refine (lives_any _).mono ?_
    rintro _ w2 ⟨rfl, b2⟩
    have bf := b1.trans (b2.mono (by omega))
    go_wp2
    go_ret
    exact ⟨rfl, bf⟩
  have d1 : decide ((20 : Int) < (n : Int)) = false := decide_eq_false (by omega)
  have hn20 : n ≤ 20 := by omega
  clear hbig
  go_wp2_with (first | rw [hBf'.out] | rw [hw1.out] | fail)
  go_loopw [5, 6, 7] (fun vl vw i wr => ∃ (k : Nat) (ls : List Sl) (lz : Nat), k ≤ n ∧ i = .int .i64 (k : Int) ∧ Hid (ls.map Sl.fs = (fsL.take k).map (fun x => [x])) ∧ Hid (ls.length = k) ∧ wr.ownsRow (Bf + 1) 26 1 vl k (ls.map slV) ∧ Hid (∀ x ∈ ls, One wr Bf vw x) ∧ (∃ m, Hid ((dd (fsL.take k)).length = m) ∧ m ≤ k ∧ wr.ownsRow (Bf + 1) 44 6 vw m (ftC (dd (fsL.take k)))) ∧ Blk wr Bf 44 #[.string fk, .int .u32 (va : Int), .int .u64 (se : Int), .int .u64 (lz : Int), .int .u8 (ki : Int), .string fv] ∧ Below Bf w wr ∧ Bf + 1 ≤ wr.heap.size) (fun vl vw i _ => n - (intOf i).toNat)
  case atStart => exact ⟨0, [], li, by omega, rfl, Lib.hid rfl, Lib.hid rfl, World.ownsRow_nil _ _ _ _, Lib.hid (fun x hx => by cases hx), ⟨0, Lib.hid rfl, Nat.le_refl _, World.ownsRow_nil _ _ _ _⟩, k1, b1, by omega⟩
  case round =>
    clear k1 b1 hs1
    obtain ⟨k, ls, lz, hk, rfl, hls, hll, hol, hone, ⟨m, hm, hmk, how⟩, kf, hB, hsz⟩ := hrel
    by_cases hlt : k < n
    · have hkz : k < zs.length := by rw [hn.out]; exact hlt
      obtain ⟨b, o, rfl, _, hcc⟩ := (hr.below (by rw [hBf'.out]; exact hB)).at_ hlt
      have hck := hcc k (.int .u64 (zs[k] : Int)) (by rw [List.getElem?_map, List.getElem?_eq_getElem hkz]; rfl)
      obtain ⟨z, hz⟩ : ∃ z, zs[k] = z := ⟨_, rfl⟩
      rw [hz] at hck
      obtain ⟨F, hF⟩ : ∃ F : Ft, F = ⟨fk, va, se, z, ki, fv⟩ := ⟨_, rfl⟩
      have hfl : fsL.length = n := by rw [← hfsL.out, List.length_map, hn.out]
      have htk : fsL.take (k + 1) = fsL.take k ++ [F] := by
        rw [List.take_succ_eq_append_getElem (by omega)]
        congr 2
        simp only [← hfsL.out, List.getElem_map, hz, hF]
      obtain ⟨w2, hw2⟩ : ∃ w2, wr.setCell ⟨Bf, 3, none⟩ (.int .u64 (z : Int)) = w2 := ⟨_, rfl⟩
      have kS : KeepBut (fun x => x = Bf) wr w2 := by rw [← hw2]; exact KeepBut.set_at _ _ _ _
      have kf2 : Blk w2 Bf 44 #[.string fk, .int .u32 (va : Int), .int .u64 (se : Int), .int .u64 (z : Int), .int .u8 (ki : Int), .string fv] := by rw [← hw2]; exact kf.store 3 _
      have hol2 := kS.own hol (fun x hx e => by have := own_neJ hol kf (by decide); exact this (by rw [← e, hx]))
      have how2 := kS.own how (fun x hx e => by have := (how.lt x hx).1; omega)
      have hone2 : ∀ x ∈ ls, One w2 Bf u6 x := fun x hx => (hone.out x hx).keep kS (fun g cs _ h e => by omega)
      have hB2 : Below Bf w w2 := by rw [← hw2]; exact hB.setCell (p := ⟨Bf, 3, none⟩) (Nat.le_refl _) _
      have hsz2 : Bf + 1 ≤ w2.heap.size := Nat.le_trans hsz kS.size
      obtain ⟨g1, hg1⟩ : ∃ g1, w2.heap.size = g1 := ⟨_, rfl⟩
      obtain ⟨w3, hw3⟩ : ∃ w3, w2.alloc (.cells #[.string fk, .int .u32 (va : Int), .int .u64 (se : Int), .int .u64 (z : Int), .int .u8 (ki : Int), .string fv] 44) = w3 := ⟨_, rfl⟩
      obtain ⟨g2, hg2⟩ : ∃ g2, w3.heap.size = g2 := ⟨_, rfl⟩
      have hg12 : g2 = g1 + 1 := by rw [← hg2, ← hw3, ← hg1]; simp
      obtain ⟨w4, hw4⟩ : ∃ w4, w3.alloc (.cells #[.slice (some ⟨g1, 0, none⟩) 1 1] 26) = w4 := ⟨_, rfl⟩
      have b34 : Below w2.heap.size w2 w4 := by rw [← hw4, ← hw3]; exact ((Below.refl _ w2).alloc (Nat.le_refl _) _).alloc (by simp) _
      have hs4 : w4.heap.size = g1 + 2 := by rw [← hw4, ← hw3, ← hg1]; simp
      have hol4 : w4.ownsRow (Bf + 1) 26 1 u5 k (ls.map slV) := by rw [← hw4, ← hw3]; exact (hol2.alloc _).alloc _
      have how4 : w4.ownsRow (Bf + 1) 44 6 u6 m (ftC (dd (fsL.take k))) := by rw [← hw4, ← hw3]; exact (how2.alloc _).alloc _
      have kn4 : Blk w4 g1 44 #[.string fk, .int .u32 (va : Int), .int .u64 (se : Int), .int .u64 (z : Int), .int .u8 (ki : Int), .string fv] := by rw [← hw4, ← hw3, ← hg1]; exact (Blk.new w2 _ _).alloc _
      have kf4 := kf2.below b34 (by omega)
      have rd4 : Rd w4 1 (some ⟨g2, 0, none⟩) 1 [.slice (some ⟨g1, 0, none⟩) 1 1] := by rw [← hw4, ← hg2]; exact Rd.one w3 _ _
      have one4 : ∀ u ∈ [Value.slice (some ⟨g1, 0, none⟩) 1 1], u.oneCell' = true := oneCell_one rfl
      have hone4 : ∀ x ∈ ls, One w4 Bf u6 x := fun x hx => (hone2 x hx).keep (S := fun _ => False) (KeepBut.of_below b34) (fun _ _ _ _ _ e => e)
      have hB4 := hB2.trans (b34.mono (by omega))
      have hnew4 : One w4 Bf u6 ⟨some ⟨g1, 0, none⟩, [F], 1⟩ := ⟨g1, F, rfl, rfl, by rw [hF]; exact kn4, by omega, fun e => by
        have := (how2.lt g1 e.symm).2
        omega⟩
      have sz4 : Bf + 1 ≤ w4.heap.size := by omega
      have hkk : (0 : Int) ≤ (k : Int) ∧ (k : Int) < (n : Int) := by omega
      have hdk : decide (k < n) = true := by simpa using hlt
      have ff : ∀ i, wr.frozen? ⟨Bf, i, none⟩ = false := kf.frozen
      have cf : ∀ i, wr.cell? ⟨Bf, i, none⟩ = _ := kf.cell
      have cf2 := kf2.cell
      have cf4 := kf4.cell
      clear hcc hz hol hone how kS hol2 how2 hone2 b34 kf2 kn4
      replace hls := Lib.hid hls.out
      replace hw2 := Lib.hid hw2
      replace hw3 := Lib.hid hw3
      replace hw4 := Lib.hid hw4
      replace hg1 := Lib.hid hg1
      replace hg2 := Lib.hid hg2
      replace hg12 := Lib.hid hg12
      replace hs4 := Lib.hid hs4
      replace hol4 := Lib.hid hol4
      replace rd4 := Lib.hid rd4
      replace one4 := Lib.hid one4
      replace hone4 := Lib.hid hone4
      replace sz4 := Lib.hid sz4
      replace htk := Lib.hid htk
      replace hF := Lib.hid hF
      replace hfl := Lib.hid hfl
      replace how4 := Lib.hid how4
      replace hnew4 := Lib.hid hnew4
      go_wp2_with (first | rw [hw2.out] | rw [hg1.out, hw3.out] | rw [hg2.out, hw4.out] | ((at_builtin; (with_reducible refine wpList_app _ rfl (.tmp 23) (.tmp 26) rfl Try.underlying22 slInfo rfl (by omega) hol4.out rfl _ 1 1 rd4.out rfl one4.out (by unfold maxLen; omega) (by omega) sz4.out ?_); intro v1 w5 hown1 hgrow1 _)) | fail)
      have kg : KeepBut (fun x => some x = u5.ownBlock) w4 w5 := KeepBut.of_grown hgrow1 (fun x e => e.symm)
      have kf5 := kg.blk kf4 (fun e => own_neJ hol4.out kf4 (by decide) e)
      have how5 := kg.own how4.out (fun x hx e => own_apart hol4.out how4.out (by decide) x hx e)
      have hone5 : ∀ x ∈ ls ++ [Sl.mk (some ⟨g1, 0, none⟩) [F] 1], One w5 Bf u6 x := fun x hx => by
        have h4 : One w4 Bf u6 x := by
          rcases List.mem_append.1 hx with h | h
          · exact hone4.out x h
          · obtain rfl := List.mem_singleton.1 h
            exact hnew4.out
        exact h4.keep kg (fun g cs hb _ _ e => own_neJ hol4.out hb (by decide) e)
      have hB5 := below_app hB4 hol4.out (by omega) (by have := sz4.out; omega) hgrow1
      have sz5 := Nat.le_trans sz4.out hgrow1.size
      have hls2 : Hid ((ls ++ [Sl.mk (some ⟨g1, 0, none⟩) [F] 1]).map Sl.fs = (fsL.take (k + 1)).map (fun x => [x])) := Lib.hid (by rw [htk.out, List.map_append, List.map_append, hls.out]; rfl)
      have hll2 : Hid ((ls ++ [Sl.mk (some ⟨g1, 0, none⟩) [F] 1]).length = k + 1) := Lib.hid (by rw [List.length_append, hll.out]; rfl)
      have hol5 : w5.ownsRow (Bf + 1) 26 1 v1 (k + 1) ((ls ++ [Sl.mk (some ⟨g1, 0, none⟩) [F] 1]).map slV) := by rw [List.map_append]; exact hown1
      obtain ⟨A6, c6, rfl⟩ := own_slice how5
      have cf5 := kf5.cell
      have hfs5 : Fs w5 A6 (dd (fsL.take k)) := by unfold Fs; rw [hm.out]; exact Rd.of_own how5
      have one6 : Hid (∀ u ∈ ftC [F], u.oneCell' = true) := Lib.hid (ftC_one [F])
      replace hone5 := Lib.hid hone5
      replace how5 := Lib.hid how5
      replace hol5 := Lib.hid hol5
      replace hB5 := Lib.hid hB5
      replace sz5 := Lib.hid sz5
      have hgd : Try.prog.eqGuardType Try.prog.depth 44 = false := by kernel_rfl
      have hmm20 : m ≤ 20 := by omega
      clear hown1 hgrow1 kg kf4 cf4 cf2 cf ff kf hck hB4 hB2 hsz2 hB hsz
      by_cases hm0 : m = 0
      · have d2 : ((m : Int) == 0) = true := by simp [hm0]
        have hddn : dd (fsL.take k ++ [F]) = dd (fsL.take k) ++ [F] := by
          rw [dd_snoc]
          unfold ddS
          rw [if_neg]
          have := hm.out
          rw [hm0] at this
          rw [List.eq_nil_of_length_eq_zero this]
          intro e; cases e
        replace hddn := Lib.hid hddn
        go_quiet (fail)
        generalize hwq : World.drewN w5 _ = wq
        have kq : KeepBut (fun _ => False) w5 wq := by rw [← hwq]; exact (KeepBut.refl w5).drewN _
        replace hwq := Lib.hid hwq
        have kfq := kq.blk kf5 (fun e => e)
        have howq := kq.own how5.out (fun _ _ e => e)
        have holq := kq.own hol5.out (fun _ _ e => e)
        have honeq : ∀ x ∈ ls ++ [Sl.mk (some ⟨g1, 0, none⟩) [F] 1], One wq Bf (.slice A6 m c6) x := fun x hx => (hone5.out x hx).keep kq (fun _ _ _ _ _ e => e)
        have hBq : Below Bf w wq := hB5.out.trans (kq.below (by have := sz5.out; omega) (fun _ e => e.elim))
        have szq : Bf + 1 ≤ wq.heap.size := Nat.le_trans sz5.out kq.size
        have cfq := kfq.cell
        have how6 := howq.alloc (.cells #[.string fk, .int .u32 (va : Int), .int .u64 (se : Int), .int .u64 (z : Int), .int .u8 (ki : Int), .string fv] 44)
        have rd6 : Rd (wq.alloc (.cells #[.string fk, .int .u32 (va : Int), .int .u64 (se : Int), .int .u64 (z : Int), .int .u8 (ki : Int), .string fv] 44)) 6 (some ⟨wq.heap.size, 0, none⟩) 1 (ftC [F]) := by rw [hF.out]; exact Rd.ft wq 44 ⟨fk, va, se, z, ki, fv⟩
        have sz6 : Bf + 1 ≤ (wq.alloc (.cells #[.string fk, .int .u32 (va : Int), .int .u64 (se : Int), .int .u64 (z : Int), .int .u8 (ki : Int), .string fv] 44)).heap.size := by simp; omega
        have kf6 := kfq.alloc (.cells #[.string fk, .int .u32 (va : Int), .int .u64 (se : Int), .int .u64 (z : Int), .int .u8 (ki : Int), .string fv] 44)
        have hol6 := holq.alloc (.cells #[.string fk, .int .u32 (va : Int), .int .u64 (se : Int), .int .u64 (z : Int), .int .u8 (ki : Int), .string fv] 44)
        have hone6 : ∀ x ∈ ls ++ [Sl.mk (some ⟨g1, 0, none⟩) [F] 1], One (wq.alloc (.cells #[.string fk, .int .u32 (va : Int), .int .u64 (se : Int), .int .u64 (z : Int), .int .u8 (ki : Int), .string fv] 44)) Bf (.slice A6 m c6) x := fun x hx => (honeq x hx).keep (S := fun _ => False) ((KeepBut.refl _).alloc _) (fun _ _ _ _ _ e => e)
        have hB6 := hBq.alloc (by omega) (.cells #[.string fk, .int .u32 (va : Int), .int .u64 (se : Int), .int .u64 (z : Int), .int .u8 (ki : Int), .string fv] 44)
        replace hone6 := Lib.hid hone6
        replace hol6 := Lib.hid hol6
        replace hB6 := Lib.hid hB6
        replace kf6 := Lib.hid kf6
        replace sz6 := Lib.hid sz6
        replace rd6 := Lib.hid rd6
        replace how6 := Lib.hid how6
        clear howq holq honeq hBq cf5 kf5 hfs5
        go_wp2_with (first | (at_builtin; refine wpList_app _ rfl (.tmp 41) (.tmp 43) rfl Try.underlying26 ftInfo rfl (by omega) how6.out rfl _ 1 1 rd6.out rfl one6.out (by unfold maxLen; omega) (by omega) sz6.out ?_; intro v2 w7 hown2 hgrow2 hlies2) | fail)
        have hm2 : Hid ((dd (fsL.take (k + 1))).length = m + 1) := Lib.hid (by rw [htk.out, hddn.out, List.length_append, hm.out]; rfl)
        have ho7 : w7.ownsRow (Bf + 1) 44 6 v2 (m + 1) (ftC (dd (fsL.take (k + 1)))) := by rw [htk.out, hddn.out, ftC_append]; exact hown2
        have kg2 : KeepBut (fun x => some x = (Value.slice A6 m c6).ownBlock) _ w7 := KeepBut.of_grown hgrow2 (fun x e => e.symm)
        have kf7 := kg2.blk kf6.out (fun e => by have := (how6.out.lt Bf e.symm).1; omega)
        have hol7 := kg2.own hol6.out (fun x hx e => own_apart how6.out hol6.out (by decide) x hx e)
        have hone7 : ∀ x ∈ ls ++ [Sl.mk (some ⟨g1, 0, none⟩) [F] 1], One w7 Bf v2 x := fun x hx => One.step (hone6.out x hx) kg2 hlies2
        have hB7 := below_app hB6.out how6.out (by omega) (by have := sz6.out; omega) hgrow2
        have sz7 := Nat.le_trans sz6.out hgrow2.size
        replace ho7 := Lib.hid ho7
        go_roundw
        case rel => exact ⟨k + 1, ls ++ [Sl.mk (some ⟨g1, 0, none⟩) [F] 1], z, by omega, by go_num, hls2, hll2, hol7, Lib.hid hone7, ⟨m + 1, hm2, by omega, ho7.out⟩, kf7, hB7, sz7⟩
        case measure => simp [intOf] <;> omega
      · obtain ⟨j, rfl⟩ : ∃ j, m = j + 1 := ⟨m - 1, by omega⟩
        have d2 : (((j + 1 : Nat) : Int) == 0) = false := by simp; omega
        have d3 : ((j : Int) + 1 == 0) = false := by simp; omega
        obtain ⟨b6, o6, rfl, _, hc6⟩ := hfs5.at_ (i := j) (by rw [hm.out]; omega)
        have hc0 := hc6 j (by rw [hm.out]; omega)
        obtain ⟨f0, hf0⟩ : ∃ f0, (dd (fsL.take k))[j]'(by rw [hm.out]; omega) = f0 := ⟨_, rfl⟩
        rw [hf0] at hc0
        have hlast : (dd (fsL.take k)).getLast? = some f0 := by
          rw [List.getLast?_eq_getElem?, hm.out, Nat.add_sub_cancel, List.getElem?_eq_getElem (by rw [hm.out]; omega), hf0]
        have heq := fun W => fact_eqv W f0 F
        obtain ⟨xk, xva, xse, xli, xki, xv⟩ := f0
        simp only at hc0
        clear hc6 hf0
        have hjj : (0 : Int) ≤ (j : Int) ∧ (j : Int) < (j : Int) + 1 := by omega
        by_cases hff : (⟨xk, xva, xse, xli, xki, xv⟩ : Ft) = F
        · have hdds : dd (fsL.take (k + 1)) = dd (fsL.take k) := by
            rw [htk.out, dd_snoc]
            unfold ddS
            rw [if_pos (by rw [hlast, hff])]
          simp only [decide_eq_true hff] at heq
          rw [hF.out] at heq
          replace hff := Lib.hid hff
          replace hlast := Lib.hid hlast
          replace hdds := Lib.hid hdds
          go_quiet (fail)
          generalize hwq : World.drewN w5 _ = wq
          have kq : KeepBut (fun _ => False) w5 wq := by rw [← hwq]; exact (KeepBut.refl w5).drewN _
          replace hwq := Lib.hid hwq
          have kfq := kq.blk kf5 (fun e => e)
          have howq := kq.own how5.out (fun _ _ e => e)
          have holq := kq.own hol5.out (fun _ _ e => e)
          have honeq : ∀ x ∈ ls ++ [Sl.mk (some ⟨g1, 0, none⟩) [F] 1], One wq Bf (.slice (some ⟨b6, o6, none⟩) (j + 1) c6) x := fun x hx => (hone5.out x hx).keep kq (fun _ _ _ _ _ e => e)
          have hBq : Below Bf w wq := hB5.out.trans (kq.below (by have := sz5.out; omega) (fun _ e => e.elim))
          have szq : Bf + 1 ≤ wq.heap.size := Nat.le_trans sz5.out kq.size
          rw [← hdds.out] at howq
          replace howq := Lib.hid howq
          clear heq
          go_wp2
          go_roundw
          case rel => exact ⟨k + 1, ls ++ [Sl.mk (some ⟨g1, 0, none⟩) [F] 1], z, by omega, by go_num, hls2, hll2, holq, Lib.hid honeq, ⟨j + 1, Lib.hid (by rw [hdds.out]; exact hm.out), by omega, howq.out⟩, kfq, hBq, szq⟩
          case measure => simp [intOf] <;> omega
        · have hddn : dd (fsL.take k ++ [F]) = dd (fsL.take k) ++ [F] := by
            rw [dd_snoc]
            unfold ddS
            rw [if_neg]
            rw [hlast]
            intro e
            injection e with e
            exact hff e
          simp only [decide_eq_false hff] at heq
          rw [hF.out] at heq
          replace hff := Lib.hid hff
          replace hlast := Lib.hid hlast
          replace hddn := Lib.hid hddn
          go_quiet (fail)
          clear heq
          generalize hwq : World.drewN w5 _ = wq
          have kq : KeepBut (fun _ => False) w5 wq := by rw [← hwq]; exact (KeepBut.refl w5).drewN _
          replace hwq := Lib.hid hwq
          have kfq := kq.blk kf5 (fun e => e)
          have howq := kq.own how5.out (fun _ _ e => e)
          have holq := kq.own hol5.out (fun _ _ e => e)
          have honeq : ∀ x ∈ ls ++ [Sl.mk (some ⟨g1, 0, none⟩) [F] 1], One wq Bf (.slice (some ⟨b6, o6, none⟩) (j + 1) c6) x := fun x hx => (hone5.out x hx).keep kq (fun _ _ _ _ _ e => e)
          have hBq : Below Bf w wq := hB5.out.trans (kq.below (by have := sz5.out; omega) (fun _ e => e.elim))
          have szq : Bf + 1 ≤ wq.heap.size := Nat.le_trans sz5.out kq.size
          have cfq := kfq.cell
          have how6 := howq.alloc (.cells #[.string fk, .int .u32 (va : Int), .int .u64 (se : Int), .int .u64 (z : Int), .int .u8 (ki : Int), .string fv] 44)
          have rd6 : Rd (wq.alloc (.cells #[.string fk, .int .u32 (va : Int), .int .u64 (se : Int), .int .u64 (z : Int), .int .u8 (ki : Int), .string fv] 44)) 6 (some ⟨wq.heap.size, 0, none⟩) 1 (ftC [F]) := by rw [hF.out]; exact Rd.ft wq 44 ⟨fk, va, se, z, ki, fv⟩
          have sz6 : Bf + 1 ≤ (wq.alloc (.cells #[.string fk, .int .u32 (va : Int), .int .u64 (se : Int), .int .u64 (z : Int), .int .u8 (ki : Int), .string fv] 44)).heap.size := by simp; omega
          have kf6 := kfq.alloc (.cells #[.string fk, .int .u32 (va : Int), .int .u64 (se : Int), .int .u64 (z : Int), .int .u8 (ki : Int), .string fv] 44)
          have hol6 := holq.alloc (.cells #[.string fk, .int .u32 (va : Int), .int .u64 (se : Int), .int .u64 (z : Int), .int .u8 (ki : Int), .string fv] 44)
          have hone6 : ∀ x ∈ ls ++ [Sl.mk (some ⟨g1, 0, none⟩) [F] 1], One (wq.alloc (.cells #[.string fk, .int .u32 (va : Int), .int .u64 (se : Int), .int .u64 (z : Int), .int .u8 (ki : Int), .string fv] 44)) Bf (.slice (some ⟨b6, o6, none⟩) (j + 1) c6) x := fun x hx => (honeq x hx).keep (S := fun _ => False) ((KeepBut.refl _).alloc _) (fun _ _ _ _ _ e => e)
          have hB6 := hBq.alloc (by omega) (.cells #[.string fk, .int .u32 (va : Int), .int .u64 (se : Int), .int .u64 (z : Int), .int .u8 (ki : Int), .string fv] 44)
          replace hone6 := Lib.hid hone6
          replace hol6 := Lib.hid hol6
          replace hB6 := Lib.hid hB6
          replace kf6 := Lib.hid kf6
          replace sz6 := Lib.hid sz6
          replace rd6 := Lib.hid rd6
          replace how6 := Lib.hid how6
          clear howq holq honeq hBq cf5 kf5 hfs5
          go_wp2_with (first | (at_builtin; refine wpList_app _ rfl (.tmp 41) (.tmp 43) rfl Try.underlying26 ftInfo rfl (by omega) how6.out rfl _ 1 1 rd6.out rfl one6.out (by unfold maxLen; omega) (by omega) sz6.out ?_; intro v2 w7 hown2 hgrow2 hlies2) | fail)
          have hm2 : Hid ((dd (fsL.take (k + 1))).length = j + 1 + 1) := Lib.hid (by rw [htk.out, hddn.out, List.length_append, hm.out]; rfl)
          have ho7 : w7.ownsRow (Bf + 1) 44 6 v2 (j + 1 + 1) (ftC (dd (fsL.take (k + 1)))) := by rw [htk.out, hddn.out, ftC_append]; exact hown2
          have kg2 : KeepBut (fun x => some x = (Value.slice (some ⟨b6, o6, none⟩) (j + 1) c6).ownBlock) _ w7 := KeepBut.of_grown hgrow2 (fun x e => e.symm)
          have kf7 := kg2.blk kf6.out (fun e => by have := (how6.out.lt Bf e.symm).1; omega)
          have hol7 := kg2.own hol6.out (fun x hx e => own_apart how6.out hol6.out (by decide) x hx e)
          have hone7 : ∀ x ∈ ls ++ [Sl.mk (some ⟨g1, 0, none⟩) [F] 1], One w7 Bf v2 x := fun x hx => One.step (hone6.out x hx) kg2 hlies2
          have hB7 := below_app hB6.out how6.out (by omega) (by have := sz6.out; omega) hgrow2
          have sz7 := Nat.le_trans sz6.out hgrow2.size
          replace ho7 := Lib.hid ho7
          go_roundw
          case rel => exact ⟨k + 1, ls ++ [Sl.mk (some ⟨g1, 0, none⟩) [F] 1], z, by omega, by go_num, hls2, hll2, hol7, Lib.hid hone7, ⟨j + 1 + 1, hm2, by omega, ho7.out⟩, kf7, hB7, sz7⟩
          case measure => simp [intOf] <;> omega
    · obtain rfl : k = n := by omega
      have hdk : decide (k < k) = false := by simp
      obtain ⟨A5, c5, rfl⟩ := own_slice hol
      obtain ⟨A6, c6, rfl⟩ := own_slice how
      have hfl : fsL.length = k := by rw [← hfsL.out, List.length_map, hn.out]
      have htk : fsL.take k = fsL := List.take_of_length_le (by omega)
      rw [htk] at how hls hm
      have hpm : Merge (ls.map Sl.fs) fsL := by
        rw [hls.out]
        have := place_merge 0 fsL (fun x hx y hy => by
          rw [← hfsL.out] at hx hy
          obtain ⟨a, _, rfl⟩ := List.mem_map.1 hx
          obtain ⟨b, _, rfl⟩ := List.mem_map.1 hy
          exact cmpF_self _ _ _ _)
        simpa using this
      have hR : Rows_ wr A5 ls := ⟨by rw [hll.out]; exact Rd.of_own hol, fun x hx => (hone.out x hx).fs⟩
      have po := lawOf_any wr A5 k c5 ls hll.out (by omega) hR fsL hpm (by omega)
      have hfs : Fs wr A6 (dd fsL) := by unfold Fs; rw [hm.out]; exact Rd.of_own how
      rw [hm.out] at po
      replace po := Lib.hid po
      have hB' : Below Bf w wr := hB
      clear hol how hone hls hpm hR kf hfl htk
      go_wp2_with fail
      refine po.out.mono ?_
      rintro _ w8 ⟨A8, c8, rfl, o8, b8⟩
      have f8 : Fs w8 A8 (dd fsL) := by unfold Fs; rw [hm.out]; exact Rd.of_own o8
      have ps := sameFt_yes w8 A8 A6 m c8 c6 (dd fsL) hm.out (by omega) f8 (hfs.below b8)
      replace ps := Lib.hid ps
      go_wp2_with fail
      refine ps.out.mono ?_
      rintro _ w9 ⟨rfl, b9⟩
      go_wp2_with fail
      refine (lives_any _).mono ?_
      rintro _ w10 ⟨rfl, b10⟩
      have hBB := hB'.trans ((b8.trans ((b9.trans (b10.mono b9.size)).mono b8.size)).mono (by omega))
      go_wp2
      go_ret
      exact ⟨rfl, hBB⟩

/-! ### from the walk to the statement (by tail.py) -/
set_option maxRecDepth 100000 in
theorem lifted (os : Os) (started : os.Started) (H : Type) (enc : TypeId × Value → H) :
    ReturnsInHanded {} Try.checked os 6 .any (Rows.joinsPlaceSpec.pre6 enc Try.prog Try.f6 Rows.joinsPlaceRow.domain false) (Rows.joinsPlaceSpec.post enc Try.prog Try.f6 false true false false) := by
  refine lifted_of (C := Try.checked) (tb := 4) (n := 2) (by kernel_rfl) started (by kernel_rfl) Try.func6 (by kernel_rfl) (by kernel_rfl) rfl (by kernel_rfl) Try.underlying4 (by kernel_rfl)
    (fun ds hd => by match ds, hd with | [d1, d2], _ => exact ⟨rfl, rfl, rfl⟩)
    (ChangeSpec.witness6 (enc := enc) (C := Try.checked) false ⟨#[], #[.agg #[.string ByteArray.empty, .int .u32 0, .int .u64 0, .int .u64 0, .int .u8 0, .string ByteArray.empty], .slice none 0 0], []⟩ 8 (by kernel_rfl) (by kernel_rfl) (by kernel_rfl) (by kernel_rfl)) ?_
  intro W base args ds before hval hA hsz
  rw [Try.params6] at hA hval hsz
  obtain ⟨v0, vs0, d0, ds0, p0, q0, rfl, rfl, rfl, h0, r0⟩ := trodAll_cons hA
  obtain ⟨v1, vs1, d1, ds1, p1, q1, rfl, rfl, rfl, h1, r1⟩ := trodAll_cons r0
  obtain ⟨rfl, rfl, rfl⟩ := trodAll_nil r1
  obtain ⟨k0, s0, va0, se0, li0, ki0, rfl, hva0, hse0, hli0, hki0⟩ := open_fact (hval 0 _ _ rfl rfl) h0
  obtain ⟨A1, c1, zs1, rfl, hr1, hl1⟩ := open_nums (hval 1 _ _ rfl rfl) h1
  exact walk W k0 s0 va0 se0 li0 ki0 hva0 hse0 hli0 hki0 A1 c1 zs1 hr1 hl1

theorem over : Rows.joinsPlaceRow.holds Try.pinned (OpenSpec.ofChange Rows.joinsPlaceSpec) :=
  OpenClaim.holds_of_wide 6 Try.f6 rfl rfl rfl rfl rfl rfl rfl ⟨rfl, rfl, rfl, rfl, rfl⟩ rfl rfl rfl rfl rfl (by kernel_rfl) Try.func6 (by kernel_rfl)
    (of_decide_eq_true (by kernel_rfl)) (by unfold Func.isWrapper; first | (rw [if_pos (by decide +kernel)]; kernel_rfl) | (rw [if_neg (by decide +kernel)]; exact ⟨rfl, rfl⟩))
    (fun os started H enc _ => lifted os started H enc)

theorem proved : Rows.JoinsPlaceSaid := over
end Go.Proofs.Ytnlmchbigpjamaa.lawJoinsPlace
