/- What is told of any lists is the chapter's; nothing is asked ahead of that; asked once more it is the same: for every input. -/
import Derived.Test.YtnlmchbigpjamaaJnLives
import Derived.Test.YtnlmchbigpjamaaJnGreat
import Derived.Test.YtnlmchbigpjamaaJnRef
import Derived.Test.YtnlmchbigpjamaaTwinFt
import Derived.Test.YtnlmchbigpjamaaJnArg
import Derived.Deep.RegionHeld3
import Derived.BigQuiet
import Derived.Laws.EntriesVeiled
import Derived.Deep.QuietTactic
set_option linter.unusedSimpArgs false
set_option linter.unusedVariables false
namespace Go.Proofs.Ytnlmchbigpjamaa.lawJoinsOf
open Go Go.RowKit Go.Shelf Herb Herb.Jn Go.ChangeShapes Go.WideShapes Go.ChangeAt
/-- A twin's list. -/
def Tw (wr : World) (C : Nat) (x : Sl) : Prop := ∃ g, x.A = some ⟨g, 0, none⟩ ∧ Blk wr g 44 (ftC (x.fs ++ [mkFt, mkFt])).toArray ∧ C < g ∧ x.fs.length ≤ 1000
theorem Tw.fs {wr : World} {C : Nat} {x : Sl} (h : Tw wr C x) : Fs wr x.A x.fs := by
  obtain ⟨g, h1, h2, _⟩ := h
  rw [h1]
  refine h2.rd (by rw [ftC_length]) (fun j u hu => ?_)
  rw [Nat.zero_add, List.getElem?_toArray, ftC_append, List.getElem?_append_left (by have := (List.getElem?_eq_some_iff.1 hu).1; exact this)]
  exact hu
theorem Tw.keep {S : Nat → Prop} {X Y : World} {C : Nat} {x : Sl} (h : Tw X C x) (hk : KeepBut S X Y) (hs : ∀ g cs, Blk X g 44 cs → ¬ S g) : Tw Y C x := by
  obtain ⟨g, h1, h2, h3, h4⟩ := h
  exact ⟨g, h1, hk.blk h2 (hs g _ h2), h3, h4⟩
theorem Tw.sq {wr : World} {C : Nat} {qs : List (Option Sl)} (h : ∀ x, some x ∈ qs → Tw wr C x) : SqFs wr C qs := fun x hx => by
  obtain ⟨g, h1, h2, h3, h4⟩ := h x hx
  refine ⟨(h x hx).fs, fun a ha _ => ?_, by omega⟩
  rw [h1] at ha
  cases ha
  show g ≠ C
  omega
/-- A take whose place is told: the frame does not grow by a layer. -/
theorem wpAnyH_take_at {P : Program} {md : Region.Mode} {ops : Array Oper} {Q : Exit → Act → World → Prop} {S : World → Prop} {i : Nat} {oi : Oper} {v : Value} {fuel : Nat} {listed : Array Bool} {a : Act} {w : World} (d : Nat) (hi : ops[i]? = some oi) (hd : oi.dst = some d)
    (hs : Region.noSelect ops = true) (hf : Region.free md ops listed i = true) (hr : (Region.ready md ops listed).contains i = true)
    (hQ : ∀ c a w, Q (.panic c) (a.put (some d) v) w → Q (.panic c) a w) (hy : YieldsIf P ops S oi v a) (hS : S w)
    (h : wpAnyH P md ops Q S fuel (listed.setIfInBounds i true) { a with tmps := a.tmps.setIfInBounds d v } w) : wpAnyH P md ops Q S (fuel + 1) listed a w :=
  wpAnyH_take hi hs hf hr (by rw [hd]; exact hQ) hy hS (by rw [hd]; exact h)
theorem Fs.take_ {w : World} {A : Option Addr} {fs : List Ft} (h : Fs w A fs) (q : Nat) : Fs w A (fs.take q) := by
  refine ⟨ftC_length _, fun h0 => ?_⟩
  obtain ⟨b, off, e, hb, hc⟩ := h.2 (by rw [List.length_take] at h0; omega)
  refine ⟨b, off, e, hb, fun j u hu => hc j u ?_⟩
  have h2 := (List.getElem?_eq_some_iff.1 hu).1
  rw [← List.take_append_drop q fs, ftC_append, List.getElem?_append_left h2]
  exact hu
/-- The beginning of a row of one's own. -/
theorem own_head {w : World} {base n c : Nat} {A : Option Addr} {xs : List Value} (h : w.ownsRow base 44 6 (.slice A n c) n xs) (q : Nat) (hq : q ≤ n) (W : World) :
    (Instr.slice 26 (.slice A n c) none (some (.int .i64 (q : Int))) none).run Try.prog W = .ok (.slice A q c) W := by
  have hqc : q ≤ c ∧ (A = none ∨ ∃ g, A = some ⟨g, 0, none⟩) := by
    rcases h.2 with ⟨e, h0⟩ | ⟨g, cap, cur, e, _, _, hnc, _⟩
    · cases e
      exact ⟨by omega, .inl rfl⟩
    · cases e
      exact ⟨by omega, .inr ⟨g, rfl⟩⟩
  obtain ⟨hqc, hA⟩ := hqc
  obtain ⟨i, hi, hz0, hz1, hz2⟩ := info_parts ftInfo
  have h1 : max (q : Int) 0 = (q : Int) := by omega
  rcases hA with rfl | ⟨g, rfl⟩ <;> unfold Instr.slice <;> simp [run_underlying Try.underlying26, Go.sizeOf, typeInfo, hi, Instr.sliceBounds, Instr.sliceBound, asIntOf, hqc, h1, add_eq]
set_option maxRecDepth 100000 in
set_option maxHeartbeats 6400000 in
theorem walk (w : World) (A : Option Addr) (c : Nat) (ls : List Sl) (hR : Rows_ w A ls) (hs : ∀ x ∈ ls, x.fs.length ≤ 140737488355328) (hl : ls.length ≤ 140737488355328) (most : Nat) (hmost : most < 256) :
    Calls Try.prog 3 #[.slice A ls.length c, .int .u8 (most : Int)] w fun e w' => e = .returned (.bool true) ∧ Below w.heap.size w w' := by
  obtain ⟨n, hn⟩ : ∃ n, ls.length = n := ⟨_, rfl⟩
  rw [hn] at hl ⊢
  obtain ⟨C, hC⟩ : ∃ C, w.heap.size = C := ⟨_, rfl⟩
  have pg := great_any w A n c ls hn hl hs hR
  obtain ⟨w1, hw1⟩ : ∃ w1, w.alloc (.cells #[.int .i64 0] 3) = w1 := ⟨_, rfl⟩
  have b1 : Below C w w1 := by rw [← hw1, ← hC]; exact (Below.refl _ _).alloc (Nat.le_refl _) _
  have k1 : Blk w1 C 3 #[.int .i64 0] := by rw [← hw1, ← hC]; exact Blk.new w _ _
  have hs1 : w1.heap.size = C + 1 := by rw [← hw1, ← hC]; simp
  have hRw : ∀ W, Below C w W → Rows_ W A ls := fun W hW => hR.below (by rw [hC]; exact hW)
  replace hn := Lib.hid hn
  replace hw1 := Lib.hid hw1
  replace hC' := Lib.hid hC
  replace hRw := Lib.hid hRw
  replace pg := Lib.hid pg
  rw [hC]
  clear hC hs hR
  go_enter Try.func3, Try.ntmps3
  go_wp2_with fail
  refine pg.out.mono ?_
  rintro _ w0 ⟨t, rfl, rfl, ht⟩
  clear pg
  by_cases hbig : 1000 < t
  · have d1 : decide ((1000 : Int) < (t : Int)) = true := decide_eq_true (by omega)
    go_wp2_with fail
    refine (lives_any _).mono ?_
    rintro _ w2 ⟨rfl, b2⟩
    have bf : Below C w w2 := b2.mono (by rw [hC'.out]; exact Nat.le_refl _)
    go_wp2
    go_ret
    exact ⟨rfl, bf⟩
  have d1 : decide ((1000 : Int) < (t : Int)) = false := decide_eq_false (by omega)
  have htot := ht.out (by omega)
  have hn1 : n ≤ 1000 := by omega
  have hten : ∀ x ∈ ls, x.fs.length ≤ 1000 := fun x hx => by
    have := le_total (List.mem_map.2 ⟨x, hx, rfl⟩ : x.fs ∈ ls.map Sl.fs)
    omega
  have htt : total (ls.map Sl.fs) ≤ 1000 := by omega
  replace hten := Lib.hid hten
  replace htt := Lib.hid htt
  clear ht htot hbig hl
  have c1 := k1.cell
  have f1 := k1.frozen
  obtain ⟨w2, hw2⟩ : ∃ w2, w1.setCell ⟨C, 0, none⟩ (.int .i64 0) = w2 := ⟨_, rfl⟩
  have k2 : Blk w2 C 3 #[.int .i64 0] := by
    have h := k1.store 0 (.int .i64 0)
    rw [hw2] at h
    exact h
  have b2 : Below C w w2 := by rw [← hw2]; exact b1.setCell (p := ⟨C, 0, none⟩) (Nat.le_refl _) _
  have hs2 : w2.heap.size = C + 1 := by rw [← hw2]; simpa using hs1
  replace hw2 := Lib.hid hw2
  clear k1 b1 hs1
  go_wp2_with (first | rw [hC'.out] | rw [hw1.out] | rw [hw2.out] | fail)
  try rw [hw2.out]
  clear c1 f1
  go_loopw [6, 7] (fun v i wr => ∃ (k : Nat) (qs : List (Option Sl)), k ≤ n ∧ i = .int .i64 (k : Int) ∧ Hid (qs.length = k) ∧ Hid (qs.map sqF = (ls.take k).map Sl.fs) ∧ wr.ownsRow (C + 1) 32 1 v k (qs.map (sqV C)) ∧ Hid (∀ x, some x ∈ qs → Tw wr C x) ∧ Blk wr C 3 #[.int .i64 0] ∧ Below C w wr ∧ C + 1 ≤ wr.heap.size) (fun v i _ => n - (intOf i).toNat)
  case atStart => exact ⟨0, [], by omega, rfl, Lib.hid rfl, Lib.hid rfl, World.ownsRow_nil _ _ _ _, Lib.hid (fun x hx => by cases hx), k2, b2, by omega⟩
  case round =>
    clear k2 b2 hs2
    obtain ⟨k, qs, hk, rfl, hql, hqf, hown, htw, kC, hB, hsz⟩ := hrel
    by_cases hlt : k < n
    · have hkl : k < ls.length := by rw [hn.out]; exact hlt
      have hxm := List.getElem_mem hkl
      have htk : (ls.take (k + 1)).map Sl.fs = (ls.take k).map Sl.fs ++ [ls[k].fs] := by
        rw [List.take_succ_eq_append_getElem hkl, List.map_append]
        rfl
      obtain ⟨x, hx⟩ : ∃ x, ls[k] = x := ⟨_, rfl⟩
      rw [hx] at hxm htk
      have hrow := (hRw.out wr hB).row
      rw [hn.out] at hrow
      obtain ⟨b, o, rfl, hb, hc⟩ := hrow.at_ hlt
      have h0 := hc k (slV x) (by rw [List.getElem?_map, List.getElem?_eq_getElem hkl, hx]; rfl)
      have hxf := (hRw.out wr hB).fs x hxm
      have hx1 := hten.out x hxm
      obtain ⟨xA, xf, xc⟩ := x
      simp only [slV] at h0 hxf hx1 htk
      obtain ⟨xn, hxn⟩ : ∃ xn, xf.length = xn := ⟨_, rfl⟩
      rw [hxn] at h0 hx1
      have pt := twinFt_any wr xA xn xc xf hxn (by omega) hxf
      have hdk : decide (k < n) = true := by simpa using hlt
      have hkk : (0 : Int) ≤ (k : Int) ∧ (k : Int) < (n : Int) := by omega
      replace hown := Lib.hid hown
      replace htk := Lib.hid htk
      replace hxn := Lib.hid hxn
      replace pt := Lib.hid pt
      replace kC := Lib.hid kC
      have hcell : ∀ W, Below C w W → W.cell? ⟨b, o + k, none⟩ = some (.slice xA xn xc) := fun W hW => by
        have hrow := (hRw.out W hW).row
        rw [hn.out] at hrow
        obtain ⟨b', o', e', _, hc⟩ := hrow.at_ hlt
        cases e'
        have h := hc k (slV ⟨xA, xf, xc⟩) (by rw [List.getElem?_map, List.getElem?_eq_getElem hkl, hx]; rfl)
        simp only [slV] at h
        rw [hxn.out] at h
        exact h
      replace hcell := Lib.hid hcell
      replace hkl := Lib.hid hkl
      clear hc hrow hxf hx hxm
      go_wp2_with fail
      refine pt.out.mono ?_
      rintro _ w3 ⟨rfl, kt, b3⟩
      clear pt h0
      have hB3 := hB.trans (b3.mono (by omega))
      have hs3 := b3.size
      obtain ⟨g, hg⟩ : ∃ g, wr.heap.size + 1 = g := ⟨_, rfl⟩
      rw [hg] at kt ⊢
      obtain ⟨w4, hw4⟩ : ∃ w4, w3.alloc (.cells #[.slice (some ⟨g, 0, none⟩) xn (xn + 2), .pointer (some ⟨C, 0, none⟩)] 30) = w4 := ⟨_, rfl⟩
      have b4 : Below w3.heap.size w3 w4 := by rw [← hw4]; exact (Below.refl _ _).alloc (Nat.le_refl _) _
      have k4 : Blk w4 w3.heap.size 30 #[.slice (some ⟨g, 0, none⟩) xn (xn + 2), .pointer (some ⟨C, 0, none⟩)] := by rw [← hw4]; exact Blk.new w3 _ _
      have b34 : Below wr.heap.size wr w4 := b3.trans (b4.mono b3.size)
      have hB4 : Below C w w4 := hB.trans (b34.mono (by omega))
      have h0 := hcell.out w3 hB3
      have h4 := hcell.out w4 hB4
      have ck4 := k4.cell
      have own4 : w4.ownsRow (C + 1) 32 1 u6 k (qs.map (sqV C)) := (KeepBut.of_below (S := fun _ => False) b34).own hown.out (fun _ _ e => e)
      have kC4 := kC.out.below b34 kC.out.lt
      have sz4 : C + 1 ≤ w4.heap.size := Nat.le_trans hsz b34.size
      have htw4 : ∀ x, some x ∈ qs → Tw w4 C x := fun x hx => (htw.out x hx).keep (S := fun _ => False) (KeepBut.of_below b34) (fun _ _ _ e => e)
      have kt4 := kt.below b4 kt.lt
      have hCg : C < g := by omega
      have hnew4 : Tw w4 C ⟨some ⟨g, 0, none⟩, xf, xn + 2⟩ := ⟨g, rfl, kt4, hCg, by show xf.length ≤ 1000; rw [hxn.out]; exact hx1⟩
      replace hw4 := Lib.hid hw4
      replace hg := Lib.hid hg
      replace own4 := Lib.hid own4
      replace kC4 := Lib.hid kC4
      replace sz4 := Lib.hid sz4
      replace htw4 := Lib.hid htw4
      replace hnew4 := Lib.hid hnew4
      replace hB4 := Lib.hid hB4
      have cz := (Blk.new w3 30 #[.slice none 0 0, .pointer none]).cell
      have fz := (Blk.new w3 30 #[.slice none 0 0, .pointer none]).frozen
      clear kt k4 b34 kt4 hown kC htw hB3 hs3 hsz hb b3 b4 hCg
      by_cases hxz : xn = 0
      · have hxe : xf = [] := List.eq_nil_of_length_eq_zero (by rw [hxn.out]; exact hxz)
        replace hxe := Lib.hid hxe
        have e1 : ((xn : Int) == 0) = true := by simp [hxz]
        replace hxz := Lib.hid hxz
        by_cases hodd : (k : Int) % 2 = 1
        · have e2 : ((k : Int) % 2 == 1) = true := by simp [hodd]
          obtain ⟨u, hu⟩ : ∃ u : Value, .nilFunc = u := ⟨_, rfl⟩
          have hy : sqV C (none) = u := by rw [← hu]; rfl
          have hqv : (qs ++ [none]).map (sqV C) = qs.map (sqV C) ++ [u] := by rw [List.map_append, ← hy]; rfl
          have hone : ∀ z ∈ [u], z.oneCell' = true := oneCell_one (by rw [← hu]; rfl)
          obtain ⟨w5, hw5⟩ : ∃ w5, w4.alloc (.cells #[u] 32) = w5 := ⟨_, rfl⟩
          have own5 : w5.ownsRow (C + 1) 32 1 u6 k (qs.map (sqV C)) := by rw [← hw5]; exact own4.out.alloc _
          have kC5 : Blk w5 C 3 #[.int .i64 0] := by rw [← hw5]; exact kC4.out.alloc _
          have B5 : Below C w w5 := by rw [← hw5]; exact hB4.out.alloc (by have := sz4.out; omega) _
          have rd5 : Rd w5 1 (some ⟨w4.heap.size, 0, none⟩) 1 [u] := by rw [← hw5]; exact Rd.one w4 _ _
          have sz5 : C + 1 ≤ w5.heap.size := by rw [← hw5]; simp; have := sz4.out; omega
          have kp5 : KeepBut (fun _ => False) w4 w5 := by rw [← hw5]; exact (KeepBut.refl w4).alloc _
          replace hqv := Lib.hid hqv
          replace hone := Lib.hid hone
          replace hu' := Lib.hid hu
          replace hw5 := Lib.hid hw5
          replace own5 := Lib.hid own5
          replace kC5 := Lib.hid kC5
          replace B5 := Lib.hid B5
          replace rd5 := Lib.hid rd5
          replace sz5 := Lib.hid sz5
          replace kp5 := Lib.hid kp5
          clear hy hu
          go_wp2_with (first | rw [hw4.out] | rw [hu'.out, hw5.out] | ((at_builtin; (with_reducible refine wpList_app _ rfl (.tmp 39) (.tmp 40) rfl Try.underlying25 fnInfo rfl (by omega) own5.out rfl _ 1 1 rd5.out rfl hone.out (by unfold maxLen; omega) (by omega) sz5.out ?_); intro v1 w6 hown1 hgrow1 _)) | fail)
          have kg : KeepBut (fun x => some x = u6.ownBlock) w5 w6 := KeepBut.of_grown hgrow1 (fun x e => e.symm)
          have kC6 := kC5.out.grown hgrow1 (own_neJ own5.out kC5.out (by decide))
          have B6 := below_app B5.out own5.out (by omega) (by have := sz5.out; omega) hgrow1
          have sz6 := Nat.le_trans sz5.out hgrow1.size
          have htw6 : Hid (∀ x, some x ∈ qs ++ [none] → Tw w6 C x) := Lib.hid (fun x hx => by
            have h4 : Tw w4 C x := by
              rcases List.mem_append.1 hx with h | h
              · exact htw4.out x h
              · have h := List.mem_singleton.1 h
                cases h
                
            exact (h4.keep kp5.out (fun _ _ _ e => e)).keep kg (fun g cs hb e => own_neJ own5.out hb (by decide) e))
          have hql6 : Hid ((qs ++ [none]).length = k + 1) := Lib.hid (by rw [List.length_append, hql.out]; rfl)
          have hqf6 : Hid ((qs ++ [none]).map sqF = (ls.take (k + 1)).map Sl.fs) := Lib.hid (by
            rw [htk.out, List.map_append, hqf.out]
            rw [hxe.out]; rfl)
          rw [← hqv.out] at hown1
          go_roundw
          case rel => exact ⟨k + 1, qs ++ [none], by omega, by go_num, hql6, hqf6, hown1, htw6, kC6, B6, sz6⟩
          case measure => simp [intOf] <;> omega
        · have e2 : ((k : Int) % 2 == 1) = false := by simpa using hodd
          obtain ⟨u, hu⟩ : ∃ u : Value, .func (.func 10) #[.agg #[.slice (some ⟨g, 0, none⟩) xn (xn + 2), .pointer (some ⟨C, 0, none⟩)]] #[] = u := ⟨_, rfl⟩
          have hy : sqV C (some (Sl.mk (some ⟨g, 0, none⟩) xf (xn + 2))) = u := by rw [← hu]; unfold sqV; simp only [hxn.out]
          have hqv : (qs ++ [some (Sl.mk (some ⟨g, 0, none⟩) xf (xn + 2))]).map (sqV C) = qs.map (sqV C) ++ [u] := by rw [List.map_append, ← hy]; rfl
          have hone : ∀ z ∈ [u], z.oneCell' = true := oneCell_one (by rw [← hu]; rfl)
          obtain ⟨w5, hw5⟩ : ∃ w5, w4.alloc (.cells #[u] 32) = w5 := ⟨_, rfl⟩
          have own5 : w5.ownsRow (C + 1) 32 1 u6 k (qs.map (sqV C)) := by rw [← hw5]; exact own4.out.alloc _
          have kC5 : Blk w5 C 3 #[.int .i64 0] := by rw [← hw5]; exact kC4.out.alloc _
          have B5 : Below C w w5 := by rw [← hw5]; exact hB4.out.alloc (by have := sz4.out; omega) _
          have rd5 : Rd w5 1 (some ⟨w4.heap.size, 0, none⟩) 1 [u] := by rw [← hw5]; exact Rd.one w4 _ _
          have sz5 : C + 1 ≤ w5.heap.size := by rw [← hw5]; simp; have := sz4.out; omega
          have kp5 : KeepBut (fun _ => False) w4 w5 := by rw [← hw5]; exact (KeepBut.refl w4).alloc _
          replace hqv := Lib.hid hqv
          replace hone := Lib.hid hone
          replace hu' := Lib.hid hu
          replace hw5 := Lib.hid hw5
          replace own5 := Lib.hid own5
          replace kC5 := Lib.hid kC5
          replace B5 := Lib.hid B5
          replace rd5 := Lib.hid rd5
          replace sz5 := Lib.hid sz5
          replace kp5 := Lib.hid kp5
          clear hy hu
          go_wp2_with (first | rw [hw4.out] | rw [hu'.out, hw5.out] | ((at_builtin; (with_reducible refine wpList_app _ rfl (.tmp 42) (.tmp 45) rfl Try.underlying25 fnInfo rfl (by omega) own5.out rfl _ 1 1 rd5.out rfl hone.out (by unfold maxLen; omega) (by omega) sz5.out ?_); intro v1 w6 hown1 hgrow1 _)) | fail)
          have kg : KeepBut (fun x => some x = u6.ownBlock) w5 w6 := KeepBut.of_grown hgrow1 (fun x e => e.symm)
          have kC6 := kC5.out.grown hgrow1 (own_neJ own5.out kC5.out (by decide))
          have B6 := below_app B5.out own5.out (by omega) (by have := sz5.out; omega) hgrow1
          have sz6 := Nat.le_trans sz5.out hgrow1.size
          have htw6 : Hid (∀ x, some x ∈ qs ++ [some (Sl.mk (some ⟨g, 0, none⟩) xf (xn + 2))] → Tw w6 C x) := Lib.hid (fun x hx => by
            have h4 : Tw w4 C x := by
              rcases List.mem_append.1 hx with h | h
              · exact htw4.out x h
              · have h := List.mem_singleton.1 h
                cases h
                exact hnew4.out
            exact (h4.keep kp5.out (fun _ _ _ e => e)).keep kg (fun g cs hb e => own_neJ own5.out hb (by decide) e))
          have hql6 : Hid ((qs ++ [some (Sl.mk (some ⟨g, 0, none⟩) xf (xn + 2))]).length = k + 1) := Lib.hid (by rw [List.length_append, hql.out]; rfl)
          have hqf6 : Hid ((qs ++ [some (Sl.mk (some ⟨g, 0, none⟩) xf (xn + 2))]).map sqF = (ls.take (k + 1)).map Sl.fs) := Lib.hid (by
            rw [htk.out, List.map_append, hqf.out]
            rfl)
          rw [← hqv.out] at hown1
          go_roundw
          case rel => exact ⟨k + 1, qs ++ [some (Sl.mk (some ⟨g, 0, none⟩) xf (xn + 2))], by omega, by go_num, hql6, hqf6, hown1, htw6, kC6, B6, sz6⟩
          case measure => simp [intOf] <;> omega
      · have e1 : ((xn : Int) == 0) = false := by simp; omega
        replace hxz := Lib.hid hxz
        obtain ⟨u, hu⟩ : ∃ u : Value, .func (.func 10) #[.agg #[.slice (some ⟨g, 0, none⟩) xn (xn + 2), .pointer (some ⟨C, 0, none⟩)]] #[] = u := ⟨_, rfl⟩
        have hy : sqV C (some (Sl.mk (some ⟨g, 0, none⟩) xf (xn + 2))) = u := by rw [← hu]; unfold sqV; simp only [hxn.out]
        have hqv : (qs ++ [some (Sl.mk (some ⟨g, 0, none⟩) xf (xn + 2))]).map (sqV C) = qs.map (sqV C) ++ [u] := by rw [List.map_append, ← hy]; rfl
        have hone : ∀ z ∈ [u], z.oneCell' = true := oneCell_one (by rw [← hu]; rfl)
        obtain ⟨w5, hw5⟩ : ∃ w5, w4.alloc (.cells #[u] 32) = w5 := ⟨_, rfl⟩
        have own5 : w5.ownsRow (C + 1) 32 1 u6 k (qs.map (sqV C)) := by rw [← hw5]; exact own4.out.alloc _
        have kC5 : Blk w5 C 3 #[.int .i64 0] := by rw [← hw5]; exact kC4.out.alloc _
        have B5 : Below C w w5 := by rw [← hw5]; exact hB4.out.alloc (by have := sz4.out; omega) _
        have rd5 : Rd w5 1 (some ⟨w4.heap.size, 0, none⟩) 1 [u] := by rw [← hw5]; exact Rd.one w4 _ _
        have sz5 : C + 1 ≤ w5.heap.size := by rw [← hw5]; simp; have := sz4.out; omega
        have kp5 : KeepBut (fun _ => False) w4 w5 := by rw [← hw5]; exact (KeepBut.refl w4).alloc _
        replace hqv := Lib.hid hqv
        replace hone := Lib.hid hone
        replace hu' := Lib.hid hu
        replace hw5 := Lib.hid hw5
        replace own5 := Lib.hid own5
        replace kC5 := Lib.hid kC5
        replace B5 := Lib.hid B5
        replace rd5 := Lib.hid rd5
        replace sz5 := Lib.hid sz5
        replace kp5 := Lib.hid kp5
        clear hy hu
        go_wp2_with (first | rw [hw4.out] | rw [hu'.out, hw5.out] | ((at_builtin; (with_reducible refine wpList_app _ rfl (.tmp 42) (.tmp 45) rfl Try.underlying25 fnInfo rfl (by omega) own5.out rfl _ 1 1 rd5.out rfl hone.out (by unfold maxLen; omega) (by omega) sz5.out ?_); intro v1 w6 hown1 hgrow1 _)) | fail)
        have kg : KeepBut (fun x => some x = u6.ownBlock) w5 w6 := KeepBut.of_grown hgrow1 (fun x e => e.symm)
        have kC6 := kC5.out.grown hgrow1 (own_neJ own5.out kC5.out (by decide))
        have B6 := below_app B5.out own5.out (by omega) (by have := sz5.out; omega) hgrow1
        have sz6 := Nat.le_trans sz5.out hgrow1.size
        have htw6 : Hid (∀ x, some x ∈ qs ++ [some (Sl.mk (some ⟨g, 0, none⟩) xf (xn + 2))] → Tw w6 C x) := Lib.hid (fun x hx => by
          have h4 : Tw w4 C x := by
            rcases List.mem_append.1 hx with h | h
            · exact htw4.out x h
            · have h := List.mem_singleton.1 h
              cases h
              exact hnew4.out
          exact (h4.keep kp5.out (fun _ _ _ e => e)).keep kg (fun g cs hb e => own_neJ own5.out hb (by decide) e))
        have hql6 : Hid ((qs ++ [some (Sl.mk (some ⟨g, 0, none⟩) xf (xn + 2))]).length = k + 1) := Lib.hid (by rw [List.length_append, hql.out]; rfl)
        have hqf6 : Hid ((qs ++ [some (Sl.mk (some ⟨g, 0, none⟩) xf (xn + 2))]).map sqF = (ls.take (k + 1)).map Sl.fs) := Lib.hid (by
          rw [htk.out, List.map_append, hqf.out]
          rfl)
        rw [← hqv.out] at hown1
        go_roundw
        case rel => exact ⟨k + 1, qs ++ [some (Sl.mk (some ⟨g, 0, none⟩) xf (xn + 2))], by omega, by go_num, hql6, hqf6, hown1, htw6, kC6, B6, sz6⟩
        case measure => simp [intOf] <;> omega
    · obtain rfl : k = n := by omega
      have d2 : decide ((k : Int) < (k : Int)) = false := decide_eq_false (by omega)
      have hdk : decide (k < k) = false := by simp
      have hqf2 : qs.map sqF = ls.map Sl.fs := by rw [hqf.out, List.take_of_length_le (by rw [hn.out]; exact Nat.le_refl _)]
      replace hqf2 := Lib.hid hqf2
      obtain ⟨Av, cv, rfl⟩ := own_slice hown
      have po := of_any wr Av k cv C qs hql.out (by omega) (Rd.of_own hown)
      have hCl := kC.lt
      replace po := Lib.hid po
      replace hown := Lib.hid hown
      replace kC := Lib.hid kC
      clear hqf
      go_wp2_with fail
      refine po.out.mono ?_
      clear po
      rintro _ w3 ⟨rfl, A3, c3, kB3, ho3, b3⟩
      have hs3 := b3.size
      have hB3 := hB.trans (b3.mono (by omega))
      have kC3 := kC.out.below b3 kC.out.lt
      have cC3 := kC3.cell
      have pr := refOf_any w3 A k c ls hn.out hn1 (hRw.out w3 hB3) htt.out
      have hown3 := (KeepBut.of_below (S := fun _ => False) b3).own hown.out (fun _ _ e => e)
      have htw3 : ∀ x, some x ∈ qs → Tw w3 C x := fun x hx => (htw.out x hx).keep (S := fun _ => False) (KeepBut.of_below b3) (fun _ _ _ e => e)
      replace pr := Lib.hid pr
      replace kB3 := Lib.hid kB3
      replace ho3 := Lib.hid ho3
      replace hown3 := Lib.hid hown3
      replace htw3 := Lib.hid htw3
      replace kC3 := Lib.hid kC3
      obtain ⟨G, hG⟩ : ∃ G, wr.heap.size = G := ⟨_, rfl⟩
      have hltAv : ∀ a, Av = some a → a.block < G := fun a ha => by
        have := (hown.out.lt a.block (by rw [ha]; rfl)).2
        omega
      rw [hG] at kB3 ho3 hs3 hCl ⊢
      replace hltAv := Lib.hid hltAv
      clear hown kC htw b3 hsz
      replace hB3 := Lib.hid hB3
      go_wp2_with fail
      refine pr.out.mono ?_
      clear pr
      rintro _ w5 ⟨out, A5, m, c5, hM, hm, rfl, ho5, b5⟩
      have hs5 := b5.size
      have hlo := hM.len
      rw [← hqf2.out] at hM
      have hlo2 : out.length ≤ 1000 := by rw [hlo]; exact htt.out
      have hm1 : m ≤ 1000 := by rw [← hm]; exact Nat.le_trans (dd_sub out).length_le hlo2
      have hB5 := hB3.out.trans (b5.mono (by have := hB3.out.size; rw [hC'.out] at this; exact this))
      have kC5 := kC3.out.below b5 kC3.out.lt
      have kB5 := kB3.out.below b5 kB3.out.lt
      have kp5 : KeepBut (fun _ => False) w3 w5 := KeepBut.of_below b5
      have own5 := kp5.own hown3.out (fun _ _ e => e)
      have row5 := kp5.own ho3.out (fun _ _ e => e)
      have htw5 : ∀ x, some x ∈ qs → Tw w5 C x := fun x hx => (htw3.out x hx).keep kp5 (fun _ _ _ e => e)
      replace hM := Lib.hid hM
      replace hm := Lib.hid hm
      replace hlo2 := Lib.hid hlo2
      replace ho5 := Lib.hid ho5
      replace hB5 := Lib.hid hB5
      replace kC5 := Lib.hid kC5
      replace kB5 := Lib.hid kB5
      replace own5 := Lib.hid own5
      replace row5 := Lib.hid row5
      replace htw5 := Lib.hid htw5
      clear hlo kC3 kB3 hown3 ho3 htw3 kp5 cC3 b5
      obtain ⟨N, hN⟩ : ∃ N : Nat, 1 + most = N := ⟨_, rfl⟩
      have hmi : IntKind.i64.wrap (1 + (most : Int)) = (N : Int) := by rw [IntWalk.i64_in _ (by omega)]; omega
      have hN1 : 1 ≤ N ∧ N ≤ 256 := by omega
      clear hN
      replace hN1 := Lib.hid hN1
      go_wp2_with fail
      go_loopw [12] (fun i W => ∃ (j : Nat), j ≤ k ∧ i = .int .i64 (j : Int) ∧ Hid (KeepBut (fun x => some x = (Value.slice Av k cv).ownBlock) w5 W) ∧ Hid (∃ ys, W.ownsRow (C + 1) 32 1 (.slice Av k cv) k ys)) (fun i _ => k - (intOf i).toNat)
      case atStart => exact ⟨0, by omega, rfl, Lib.hid (KeepBut.refl _), Lib.hid ⟨_, own5.out⟩⟩
      case round =>
        obtain ⟨j, hj, rfl, hkp, how⟩ := hrel
        by_cases hjk : j < k
        · have d3 : decide ((j : Int) < (k : Int)) = true := decide_eq_true (by omega)
          have d4 : decide (j < k) = true := by simpa using hjk
          obtain ⟨ys, hys⟩ := how.out
          obtain ⟨g, cap, e, _, _⟩ := World.ownsRow.form hys (by omega)
          cases e
          have hyl : ys.length = k := by have := hys.1; omega
          have hcj := hys.cellAt j (by omega)
          obtain ⟨yj, hyj⟩ : ∃ y, ys[j]? = some y := ⟨_, List.getElem?_eq_getElem (by rw [hyl]; exact hjk)⟩
          rw [hyj] at hcj
          clear hyj
          have hfj := hys.frozenAt j
          have hst := (hys.stored j .nilFunc).1
          obtain ⟨wn, hwn⟩ : ∃ wn, wr.setCell ⟨g, j, none⟩ .nilFunc = wn := ⟨_, rfl⟩
          have hkn : KeepBut (fun x => some x = (Value.slice (some ⟨g, 0, none⟩) k cv).ownBlock) w5 wn := by rw [← hwn]; exact KeepBut.setCell (S := fun x => some x = (Value.slice (some ⟨g, 0, none⟩) k cv).ownBlock) (p := ⟨g, j, none⟩) hkp.out rfl _
          rw [hwn] at hst
          have hjj : (0 : Int) ≤ (j : Int) ∧ (j : Int) < (k : Int) := by omega
          replace hst := Lib.hid hst
          replace hkn := Lib.hid hkn
          replace hwn := Lib.hid hwn
          clear hys how hyl hkp
          go_wp2_with (first | rw [hwn.out] | fail)
          try rw [hwn.out]
          go_roundw
          case rel => exact ⟨j + 1, by omega, by go_num, hkn, Lib.hid ⟨_, hst.out⟩⟩
          case measure => simp [intOf] <;> omega
        · obtain rfl : j = k := by omega
          have d3 : decide ((j : Int) < (j : Int)) = false := decide_eq_false (by omega)
          have d4 : decide (j < j) = false := by simp
          obtain ⟨W, hW⟩ : ∃ W, W = wr := ⟨_, rfl⟩
          rw [← hW] at hkp ⊢
          clear hW
          have hS1 : ∀ x, some x = (Value.slice Av j cv).ownBlock → C + 1 ≤ x ∧ x < G := fun x hx => by
            refine ⟨(own5.out.lt x hx.symm).1, ?_⟩
            rcases Av with _ | a
            · cases hx
            · cases hx
              exact hltAv.out a rfl
          have kCW := hkp.out.blk kC5.out (own_neJ own5.out kC5.out (by decide))
          have kBW := hkp.out.blk kB5.out (own_neJ own5.out kB5.out (by decide))
          have rowW := hkp.out.own row5.out (fun x hx e => by
            have h1 := (row5.out.lt x hx).1
            have h2 := (hS1 x e).2
            omega)
          have outW := hkp.out.own ho5.out (fun x hx e => by
            have h1 := (ho5.out.lt x hx).1
            have h2 := (hS1 x e).2
            omega)
          have htwW : ∀ x, some x ∈ qs → Tw W C x := fun x hx => (htw5.out x hx).keep hkp.out (fun g cs hb e => own_neJ own5.out hb (by decide) e)
          have hBW : Below C w W := hB5.out.trans (hkp.out.below (by have := kC5.out.lt; omega) (fun x e => by have := (hS1 x e).1; omega))
          have hCW := kCW.lt
          have pt := fun (X : World) (hk : KeepBut (fun x => x = C) W X) (hc : Cnt C X) (mo : Nat) (h1 : 1 ≤ mo) (h2 : mo ≤ 2000000) => told_any X G A3 j c3 C qs hql.out (by omega) (hk.blk kBW (by omega)) (by omega) (Rd.of_own (hk.own rowW (fun x hx e => by have := (rowW.lt x hx).1; omega))) (fun a ha h0 => by
            have := (rowW.lt a.block (by rw [ha]; rfl)).1
            omega) (Tw.sq (fun x hx => (htwW x hx).keep hk (fun g cs hb e => hb.ne_ kCW (by decide) e))) hc out hM.out (by have := hlo2.out; omega) mo h1 h2
          have fsW : Fs W A5 (dd out) := by unfold Fs; rw [hm.out]; exact Rd.of_own outW
          have fsX : ∀ X, KeepBut (fun x => x = C) W X → Fs X A5 (dd out) := fun X hk => by unfold Fs; rw [hm.out]; exact Rd.of_own (hk.own outW (fun x hx e => by have := (outW.lt x hx).1; omega))
          obtain ⟨q, hq⟩ : ∃ q, min N m = q := ⟨_, rfl⟩
          have hqm : q ≤ m := by omega
          have hmin : ∀ W, (Builtin.min_ #[3, 3] 3 #[.int .i64 (N : Int), .int .i64 (m : Int)]).run Try.prog W = .ok (.int .i64 (q : Int)) W := fun W => by rw [run_min2]; congr 3; omega
          have hsl := own_head outW q hqm
          have hql2 : ((dd out).take N).length = q := by rw [List.length_take, hm.out]; exact hq
          have hall : (dd out).take 1048576 = dd out := List.take_of_length_le (by rw [hm.out]; omega)
          obtain ⟨xs, hxs⟩ : ∃ xs, dd out = xs := ⟨_, rfl⟩
          rw [hxs] at hql2 hall fsX
          simp only [hxs] at pt
          rw [hxs] at hm
          replace pt := Lib.hid pt
          replace fsX := Lib.hid fsX
          replace hql2 := Lib.hid hql2
          replace hall := Lib.hid hall
          replace hBW := Lib.hid hBW
          have hCW2 : Cnt C W := ⟨0, kCW⟩
          replace hCW := Lib.hid hCW
          replace hCW2 := Lib.hid hCW2
          replace hqm := Lib.hid hqm
          clear hxs hkp how kBW rowW outW htwW fsW hS1 hq hM hlo2 ho5 hB5 kC5 kB5 own5 row5 htw5 kCW
          go_wp2_with fail
          have hfol : Try.prog.follows .mixedOrders = true := by kernel_rfl
          have hS0 : KeepBut (fun x => x = C) W W.drew := (KeepBut.refl W).drew
          refine wp_region_held (S := fun X => True) hfol ?_
          refine wpAnyH_take_at (i := 0) (v := .func (.func 21) #[] #[.pointer (some ⟨G, 0, none⟩)]) 65 rfl (by kernel_rfl) (by kernel_rfl) (by kernel_rfl) (by kernel_rfl) (fun _ _ _ h => h) (.inl ⟨by kernel_rfl, fun W hW => by go_simp⟩) trivial ?_
          try simp only [List.setIfInBounds_toArray, List.set_cons_zero, List.set_cons_succ]
          refine wpAnyH_take_at (i := 1) (v := .int .i64 (N : Int)) 66 rfl (by kernel_rfl) (by kernel_rfl) (by kernel_rfl) (by kernel_rfl) (fun _ _ _ h => h) (.inl ⟨by kernel_rfl, fun W hW => by go_simp⟩) trivial ?_
          try simp only [List.setIfInBounds_toArray, List.set_cons_zero, List.set_cons_succ]
          refine wpAnyH_take_at (i := 3) (v := .slice A5 m c5) 68 rfl (by kernel_rfl) (by kernel_rfl) (by kernel_rfl) (by kernel_rfl) (fun _ _ _ h => h) (.inl ⟨by kernel_rfl, fun W hW => by go_simp⟩) trivial ?_
          try simp only [List.setIfInBounds_toArray, List.set_cons_zero, List.set_cons_succ]
          refine wpAnyH_take_at (i := 4) (v := .int .i64 (N : Int)) 69 rfl (by kernel_rfl) (by kernel_rfl) (by kernel_rfl) (by kernel_rfl) (fun _ _ _ h => h) (.inl ⟨by kernel_rfl, fun W hW => by go_simp⟩) trivial ?_
          try simp only [List.setIfInBounds_toArray, List.set_cons_zero, List.set_cons_succ]
          refine wpAnyH_take_at (i := 5) (v := .slice A5 m c5) 70 rfl (by kernel_rfl) (by kernel_rfl) (by kernel_rfl) (by kernel_rfl) (fun _ _ _ h => h) (.inl ⟨by kernel_rfl, fun W hW => by go_simp⟩) trivial ?_
          try simp only [List.setIfInBounds_toArray, List.set_cons_zero, List.set_cons_succ]
          refine wpAnyH_take_at (i := 6) (v := .int .i64 (m : Int)) 71 rfl (by kernel_rfl) (by kernel_rfl) (by kernel_rfl) (by kernel_rfl) (fun _ _ _ h => h) (.inl ⟨by kernel_rfl, fun W hW => by go_simp⟩) trivial ?_
          try simp only [List.setIfInBounds_toArray, List.set_cons_zero, List.set_cons_succ]
          refine wpAnyH_take_at (i := 7) (v := .int .i64 (q : Int)) 72 rfl (by kernel_rfl) (by kernel_rfl) (by kernel_rfl) (by kernel_rfl) (fun _ _ _ h => h) (.inl ⟨by kernel_rfl, fun W hW => by go_simp⟩) trivial ?_
          try simp only [List.setIfInBounds_toArray, List.set_cons_zero, List.set_cons_succ]
          refine wpAnyH_take_at (i := 8) (v := .slice A5 q c5) 73 rfl (by kernel_rfl) (by kernel_rfl) (by kernel_rfl) (by kernel_rfl) (fun _ _ _ h => h) (.inl ⟨by kernel_rfl, fun W hW => by go_simp⟩) trivial ?_
          try simp only [List.setIfInBounds_toArray, List.set_cons_zero, List.set_cons_succ]
          refine wpAnyH_ready (rs := [2]) (by kernel_rfl) (by simp) (AllReadyH.cons rfl (fun K' hK => ?_) AllReadyH.nil)
          go_simp
          go_at_call 14
          refine (pt.out _ hS0 (Cnt.keep _ _ hCW2.out ((KeepBut.refl W).drew)) N hN1.out.1 (by have := hN1.out.2; omega)).mono ?_
          rintro _ w7 ⟨v7, rfl, o7, b7, n7⟩
          obtain ⟨A7, c7, rfl⟩ := own_slice o7
          have hS1 : KeepBut (fun x => x = C) W w7 := hS0.trans (b7.weak (fun x hx e => e))
          have f7 : Fs w7 A7 (xs.take N) := Rd.of_own o7
          rw [hql2.out]
          replace f7 := Lib.hid f7
          replace n7 := Lib.hid n7
          refine hK.out _ _ trivial (fun _ => ?_)
          clear o7 b7
          clear hK K'
          try dsimp only [Act.put]
          try simp only [List.setIfInBounds_toArray, List.set_cons_zero, List.set_cons_succ]
          refine wpAnyH_ready (rs := [9]) (by kernel_rfl) (by simp) (AllReadyH.cons rfl (fun K' hK => ?_) AllReadyH.nil)
          go_simp
          go_at_call 13
          refine (sameFt_yes w7 A7 A5 q c7 c5 (xs.take N) hql2.out (by have := hqm.out; omega) f7.out (Fs.take_ (fsX.out w7 hS1) N)).mono ?_
          rintro _ w9 ⟨rfl, b9⟩
          have hS2 : KeepBut (fun x => x = C) W w9 := hS1.trans (KeepBut.of_below b9)
          have n9 : Cnt C w9 := Cnt.keep _ _ n7.out (KeepBut.of_below b9)
          replace n9 := Lib.hid n9
          refine hK.out _ _ trivial (fun _ => ?_)
          clear b9
          clear hK K'
          try dsimp only [Act.put]
          try simp only [List.setIfInBounds_toArray, List.set_cons_zero, List.set_cons_succ]
          refine wpAnyH_take_at (i := 10) (v := .bool true) 75 rfl (by kernel_rfl) (by kernel_rfl) (by kernel_rfl) (by kernel_rfl) (fun _ _ _ h => h) (.inl ⟨by kernel_rfl, fun W hW => by go_simp⟩) trivial ?_
          try simp only [List.setIfInBounds_toArray, List.set_cons_zero, List.set_cons_succ]
          refine wpAnyH_take_at (i := 11) (v := .func (.func 21) #[] #[.pointer (some ⟨G, 0, none⟩)]) 76 rfl (by kernel_rfl) (by kernel_rfl) (by kernel_rfl) (by kernel_rfl) (fun _ _ _ h => h) (.inl ⟨by kernel_rfl, fun W hW => by go_simp⟩) trivial ?_
          try simp only [List.setIfInBounds_toArray, List.set_cons_zero, List.set_cons_succ]
          refine wpAnyH_take_at (i := 13) (v := .slice A5 m c5) 78 rfl (by kernel_rfl) (by kernel_rfl) (by kernel_rfl) (by kernel_rfl) (fun _ _ _ h => h) (.inl ⟨by kernel_rfl, fun W hW => by go_simp⟩) trivial ?_
          try simp only [List.setIfInBounds_toArray, List.set_cons_zero, List.set_cons_succ]
          refine wpAnyH_ready (rs := [12]) (by kernel_rfl) (by simp) (AllReadyH.cons rfl (fun K' hK => ?_) AllReadyH.nil)
          go_simp
          go_at_call 14
          refine (pt.out _ hS2 n9.out 1048576 (by omega) (by omega)).mono ?_
          rintro _ w12 ⟨v12, rfl, o12, b12, n12⟩
          obtain ⟨A12, c12, rfl⟩ := own_slice o12
          rw [hall.out] at o12
          have hS3 : KeepBut (fun x => x = C) W w12 := hS2.trans (b12.weak (fun x hx e => e))
          have f12 : Fs w12 A12 xs := Rd.of_own o12
          rw [hall.out, hm.out]
          replace f12 := Lib.hid f12
          refine hK.out _ _ trivial (fun _ => ?_)
          clear o12 b12 n12
          clear hK K'
          try dsimp only [Act.put]
          try simp only [List.setIfInBounds_toArray, List.set_cons_zero, List.set_cons_succ]
          refine wpAnyH_ready (rs := [14]) (by kernel_rfl) (by simp) (AllReadyH.cons rfl (fun K' hK => ?_) AllReadyH.nil)
          go_simp
          go_at_call 13
          refine (sameFt_yes w12 A12 A5 m c12 c5 xs hm.out (by omega) f12.out (fsX.out w12 hS3)).mono ?_
          rintro _ w14 ⟨rfl, b14⟩
          have hS4 : KeepBut (fun x => x = C) W w14 := hS3.trans (KeepBut.of_below b14)
          refine hK.out _ _ trivial (fun _ => ?_)
          clear b14
          clear hK K'
          try dsimp only [Act.put]
          try simp only [List.setIfInBounds_toArray, List.set_cons_zero, List.set_cons_succ]
          refine wpAnyH_take_at (i := 15) (v := .bool true) 80 rfl (by kernel_rfl) (by kernel_rfl) (by kernel_rfl) (by kernel_rfl) (fun _ _ _ h => h) (.inl ⟨by kernel_rfl, fun W hW => by go_simp⟩) trivial ?_
          try simp only [List.setIfInBounds_toArray, List.set_cons_zero, List.set_cons_succ]
          refine wpAnyH_take_at (i := 16) (v := .bool true) 81 rfl (by kernel_rfl) (by kernel_rfl) (by kernel_rfl) (by kernel_rfl) (fun _ _ _ h => h) (.inl ⟨by kernel_rfl, fun W hW => by go_simp⟩) trivial ?_
          try simp only [List.setIfInBounds_toArray, List.set_cons_zero, List.set_cons_succ]
          refine wpAnyH_ready (rs := [17]) (by kernel_rfl) (by simp) (AllReadyH.cons rfl (fun K' hK => ?_) AllReadyH.nil)
          go_simp
          go_at_call 8
          refine (lives_any w14).mono ?_
          rintro _ w17 ⟨rfl, b17⟩
          have hS5 : KeepBut (fun x => x = C) W w17 := hS4.trans (KeepBut.of_below b17)
          refine hK.out _ _ trivial (fun _ => ?_)
          clear b17
          clear hK K'
          try dsimp only [Act.put]
          try simp only [List.setIfInBounds_toArray, List.set_cons_zero, List.set_cons_succ]
          refine wpAnyH_take_at (i := 18) (v := .bool true) 83 rfl (by kernel_rfl) (by kernel_rfl) (by kernel_rfl) (by kernel_rfl) (fun _ _ _ h => h) (.inl ⟨by kernel_rfl, fun W hW => by go_simp⟩) trivial ?_
          try simp only [List.setIfInBounds_toArray, List.set_cons_zero, List.set_cons_succ]
          refine wpAnyH_ready (rs := [19]) (by kernel_rfl) (by simp) (AllReadyH.cons rfl (fun K' hK => ?_) AllReadyH.nil)
          go_simp
          refine hK.out _ _ trivial (fun _ => ?_)
          clear hK K'
          try dsimp only [Act.put]
          try simp only [List.setIfInBounds_toArray, List.set_cons_zero, List.set_cons_succ]
          refine wpAnyH_done (by kernel_rfl) ?_ _
          have bf : Below C w w17 := hBW.out.trans (hS5.below (by have := hCW.out; omega) (fun x e => by omega))
          go_wp2
          go_ret
          exact ⟨rfl, bf⟩

/-! ### from the walk to the statement (by tail.py) -/
set_option maxRecDepth 100000 in
theorem lifted (os : Os) (started : os.Started) (H : Type) (enc : TypeId × Value → H) :
    ReturnsInHanded {} Try.checked os 3 .any (Rows.joinsOfSpec.pre6 enc Try.prog Try.f3 Rows.joinsOfRow.domain false) (Rows.joinsOfSpec.post enc Try.prog Try.f3 false true false false) := by
  refine lifted_of (C := Try.checked) (tb := 4) (n := 2) (by kernel_rfl) started (by kernel_rfl) Try.func3 (by kernel_rfl) (by kernel_rfl) rfl (by kernel_rfl) Try.underlying4 (by kernel_rfl)
    (fun ds hd => by match ds, hd with | [d1, d2], _ => exact ⟨rfl, rfl, rfl⟩)
    (ChangeSpec.witness6 (enc := enc) (C := Try.checked) false ⟨#[], #[.slice none 0 0, .int .u8 0], []⟩ 8 (by kernel_rfl) (by kernel_rfl) (by kernel_rfl) (by kernel_rfl)) ?_
  intro W base args ds before hval hA hsz
  rw [Try.params3] at hA hval hsz
  obtain ⟨v0, vs0, d0, ds0, p0, q0, rfl, rfl, rfl, h0, r0⟩ := trodAll_cons hA
  obtain ⟨v1, vs1, d1, ds1, p1, q1, rfl, rfl, rfl, h1, r1⟩ := trodAll_cons r0
  obtain ⟨rfl, rfl, rfl⟩ := trodAll_nil r1
  obtain ⟨A0, c0, ls0, rfl, hR0, hlm0, hcap0⟩ := open_ftrows (hval 0 _ _ rfl rfl) h0
  have hc0 := hcap0 hsz 0 rfl rfl
  obtain ⟨x1, rfl, hx1⟩ := open_u8 Try.underlying5 (hval 1 _ _ rfl rfl) h1
  exact walk W A0 c0 ls0 hR0 (fun y hy => by have := reachBytes_lt; have := hc0.1 y hy; omega) (by have := reachBytes_lt; have := hc0.2; omega) x1 hx1

theorem over : Rows.joinsOfRow.holds Try.pinned (OpenSpec.ofChange Rows.joinsOfSpec) :=
  OpenClaim.holds_of_wide 3 Try.f3 rfl rfl rfl rfl rfl rfl rfl ⟨rfl, rfl, rfl, rfl, rfl⟩ rfl rfl rfl rfl rfl (by kernel_rfl) Try.func3 (by kernel_rfl)
    (of_decide_eq_true (by kernel_rfl)) (by unfold Func.isWrapper; first | (rw [if_pos (by decide +kernel)]; kernel_rfl) | (rw [if_neg (by decide +kernel)]; exact ⟨rfl, rfl⟩))
    (fun os started H enc _ => lifted os started H enc)

theorem proved : Rows.JoinsOfSaid := over
end Go.Proofs.Ytnlmchbigpjamaa.lawJoinsOf
