/- Of lists that are told rising all is told rising: each fact of each, and no other one: for every input. -/
import Derived.Test.YtnlmchbigpjamaaJnLives
import Derived.Test.YtnlmchbigpjamaaJnRising
import Derived.Test.YtnlmchbigpjamaaJnGreat
import Derived.Test.YtnlmchbigpjamaaJnSeen
import Derived.Test.YtnlmchbigpjamaaJnArgK
import Derived.Maps.RangeWalk
import Derived.BigQuiet
import Derived.Deep.QuietTactic
set_option linter.unusedSimpArgs false
set_option linter.unusedVariables false
namespace Go.Proofs.Ytnlmchbigpjamaa.lawJoinsRise
open Go Go.RowKit Go.Shelf Herb Herb.Jn Go.ChangeShapes Go.WideShapes Go.ChangeAt Go.Maps
theorem zeroInt (w : World) : (zeroValue 3).run Try.prog w = .ok (.int .i64 0) w := by kernel_rfl
theorem wf1 : (Lit.int .i64 1).wf = true := by decide
theorem wf2 : (Lit.int .i64 2).wf = true := by decide
theorem flat_snoc (ls : List Sl) (i : Nat) (h : i < ls.length) : (ls.take (i + 1)).flatMap Sl.fs = (ls.take i).flatMap Sl.fs ++ ls[i].fs := by
  rw [List.take_succ_eq_append_getElem h]
  simp only [List.flatMap_append, List.flatMap_cons, List.flatMap_nil, List.append_nil]
theorem look {w : World} {B q : Nat} {D : DataW Unit} {L M : List Ft} (h : w.ownsMap Try.prog 44 (plainElem Try.prog 3) B q D) (hM : Mp D L M) {f : Ft} {kl : Lit} (hk : KOf f kl) (hf : f ∈ L) :
    ∃ z : Int, z ≠ 0 ∧ ∀ n, (Instr.lookup 38 (.map (some B)) f.val false).run Try.prog (w.drewN n) = .ok (.int .i64 z) (w.drewN n) := by
  classical
  obtain ⟨z, hz⟩ : ∃ z : Int, (if f ∈ M then 2 else 1) = z := ⟨_, rfl⟩
  refine ⟨z, by rw [← hz]; split <;> decide, fun n => ?_⟩
  have h' : (w.drewN n).ownsMap Try.prog 44 (plainElem Try.prog 3) B q D := h
  obtain ⟨c, hrun, hat, _⟩ := h'.lookup_int ftKeyed Try.underlying38 Try.underlying3 (zeroInt _) hk
  rw [hM.at_ f kl hk, if_pos hf] at hat
  simp only [DataW.lit.injEq, Lit.int.injEq, true_and] at hat
  rw [hrun, ← hat, ← hz]
set_option maxRecDepth 100000 in
set_option maxHeartbeats 6400000 in
theorem walk (w : World) (A : Option Addr) (c : Nat) (ls : List Sl) (hR : Rows_ w A ls) (hkb : ∀ x ∈ ls, ∀ f ∈ x.fs, Kb f) (hs : ∀ x ∈ ls, x.fs.length ≤ 140737488355328) (hl : ls.length ≤ 140737488355328) :
    Calls Try.prog 4 #[.slice A ls.length c] w fun e w' => e = .returned (.bool true) ∧ Below w.heap.size w w' := by
  obtain ⟨n, hn⟩ : ∃ n, ls.length = n := ⟨_, rfl⟩
  rw [hn] at hl ⊢
  obtain ⟨Bf, hBf⟩ : ∃ Bf, w.heap.size = Bf := ⟨_, rfl⟩
  have pg := great_any w A n c ls hn hl hs hR
  obtain ⟨w1, hw1⟩ : ∃ w1, w.alloc (.map #[] 0) = w1 := ⟨_, rfl⟩
  have b1 : Below Bf w w1 := by rw [← hw1, ← hBf]; exact (Below.refl _ _).alloc (Nat.le_refl _) _
  have o1 : w1.ownsMap (H := Unit) Try.prog 44 (plainElem Try.prog 3) Bf 0 (.map []) := by rw [← hw1, ← hBf]; exact World.ownsMap_made _ _ _ _
  have hs1 : w1.heap.size = Bf + 1 := by rw [← hw1, ← hBf]; simp
  have hRw : ∀ W, Below Bf w W → Rows_ W A ls := fun W hW => hR.below (by rw [hBf]; exact hW)
  replace hn := Lib.hid hn
  replace hw1 := Lib.hid hw1
  replace hBf' := Lib.hid hBf
  replace hkb := Lib.hid hkb
  replace hRw := Lib.hid hRw
  replace pg := Lib.hid pg
  replace o1 := Lib.hid o1
  rw [hBf]
  clear hBf hs hR
  have hmm := @run_makeMap Try.prog
  go_enter Try.func4, Try.ntmps4
  go_wp2_with fail
  refine pg.out.mono ?_
  rintro _ w0 ⟨t, rfl, rfl, ht⟩
  clear pg
  by_cases hbig : 1000 < t
  · have d1 : decide ((1000 : Int) < (t : Int)) = true := decide_eq_true (by omega)
    go_wp2_with fail
    refine (lives_any _).mono ?_
    rintro _ w2 ⟨rfl, b2⟩
    have bf : Below Bf w w2 := b2.mono (by rw [hBf'.out]; exact Nat.le_refl _)
    go_wp2
    go_ret
    exact ⟨rfl, bf⟩
  have d1 : decide ((1000 : Int) < (t : Int)) = false := decide_eq_false (by omega)
  have htot := ht.out (by omega)
  have hn1 : n ≤ 1000 := by omega
  have hten : ∀ x ∈ ls, x.fs.length ≤ 1000 := fun x hx => by
    have := le_total (List.mem_map.2 ⟨x, hx, rfl⟩ : x.fs ∈ ls.map Sl.fs)
    omega
  have htt : total (ls.map Sl.fs) ≤ 1000 := by omega
  replace hten := Lib.hid hten
  replace htt := Lib.hid htt
  clear ht htot hbig hl
  go_wp2_with (first | rw [hBf'.out] | rw [hw1.out] | fail)
  go_loopw [4] (fun v wr => ∃ (i q : Nat) (D : DataW Unit), i ≤ n ∧ v = .int .i64 (i : Int) ∧ Hid (Mp D ((ls.take i).flatMap Sl.fs) []) ∧ wr.ownsMap Try.prog 44 (plainElem Try.prog 3) Bf q D ∧ q ≤ i * 1000 ∧ Hid (∀ x ∈ ls.take i, Ris x.fs) ∧ Below Bf w wr ∧ Bf + 1 ≤ wr.heap.size) (fun v _ => n - (intOf v).toNat)
  case atStart => exact ⟨0, 0, _, by omega, rfl, Lib.hid Mp.start, o1.out, by omega, Lib.hid (fun x hx => by cases hx), b1, by omega⟩
  case round =>
    clear b1 hs1 o1
    obtain ⟨i, q, D, hi, rfl, hMp, hown, hq, hris, hB, hsz⟩ := hrel
    by_cases hlt : i < n
    · have hil : i < ls.length := by rw [hn.out]; exact hlt
      have hxm := List.getElem_mem hil
      have hfl := flat_snoc ls i hil
      have htk : ls.take (i + 1) = ls.take i ++ [ls[i]] := List.take_succ_eq_append_getElem hil
      obtain ⟨x, hx⟩ : ∃ x, ls[i] = x := ⟨_, rfl⟩
      rw [hx] at hxm hfl htk
      have hrow := (hRw.out wr hB).row
      rw [hn.out] at hrow
      obtain ⟨b, o, rfl, _, hc⟩ := hrow.at_ hlt
      have h0 := hc i (slV x) (by rw [List.getElem?_map, List.getElem?_eq_getElem hil, hx]; rfl)
      have hxf := (hRw.out wr hB).fs x hxm
      have hx1 := hten.out x hxm
      obtain ⟨xA, xf, xc⟩ := x
      simp only [slV] at h0 hxf hx1 hfl
      obtain ⟨xn, hxn⟩ : ∃ xn, xf.length = xn := ⟨_, rfl⟩
      rw [hxn] at h0 hx1
      have pr := rising_any wr xA xn xc xf hxn (by omega) hxf
      have hii : (0 : Int) ≤ (i : Int) ∧ (i : Int) < (n : Int) := by omega
      have d2 : decide ((i : Int) < (n : Int)) = true := decide_eq_true (by omega)
      replace pr := Lib.hid pr
      replace hfl := Lib.hid hfl
      replace htk := Lib.hid htk
      replace hxn := Lib.hid hxn
      replace hx := Lib.hid hx
      replace hxm := Lib.hid hxm
      replace hown := Lib.hid hown
      clear hrow hc hxf
      go_wp2_with fail
      refine pr.out.mono ?_
      rintro _ w2 ⟨bb, rfl, hb, b2⟩
      have hB2 : Below Bf w w2 := hB.trans (b2.mono (by omega))
      have hs2 := Nat.le_trans hsz b2.size
      replace hown := Lib.hid (ownsMap_below hown.out b2 (by omega))
      clear pr h0
      cases bb
      · clear hb
        go_wp2_with fail
        refine (lives_any _).mono ?_
        rintro _ w3 ⟨rfl, b3⟩
        have bf := hB2.trans (b3.mono (by omega))
        go_wp2
        go_ret
        exact ⟨rfl, bf⟩
      · have hrx : Ris xf := hb.1 rfl
        replace hrx := Lib.hid hrx
        clear hb
        go_wp2_with fail
        go_loopw [5] (fun v wr => ∃ (k q : Nat) (D : DataW Unit), k ≤ xn ∧ v = .int .i64 (k : Int) ∧ Hid (Mp D ((ls.take i).flatMap Sl.fs ++ xf.take k) []) ∧ wr.ownsMap Try.prog 44 (plainElem Try.prog 3) Bf q D ∧ q ≤ i * 1000 + k ∧ Below Bf w wr ∧ Bf + 1 ≤ wr.heap.size) (fun v _ => xn - (intOf v).toNat)
        case atStart => exact ⟨0, q, D, by omega, rfl, Lib.hid (by simpa using hMp.out), hown.out, by omega, hB2, hs2⟩
        case round =>
          clear hB2 hs2 hown hMp hq hB hsz b2
          obtain ⟨k, q, D, hk, rfl, hMp, hown, hq, hB, hsz⟩ := hrel
          have hrow := (hRw.out wr hB).row
          rw [hn.out] at hrow
          obtain ⟨b', o', e', _, hc⟩ := hrow.at_ hlt
          cases e'
          have h0 := hc i (slV ⟨xA, xf, xc⟩) (by rw [List.getElem?_map, List.getElem?_eq_getElem (by rw [hn.out]; exact hlt), hx.out]; rfl)
          simp only [slV] at h0
          rw [hxn.out] at h0
          have hxf : Fs wr xA xf := (hRw.out wr hB).fs _ hxm.out
          clear hc hrow
          by_cases hkt : k < xn
          · have hkl : k < xf.length := by rw [hxn.out]; exact hkt
            obtain ⟨xb, xo, rfl, _, hc⟩ := hxf.at_ (i := k) hkl
            have h1 := hc k hkl
            have hfm := List.getElem_mem hkl
            have htk2 : xf.take (k + 1) = xf.take k ++ [xf[k]] := List.take_succ_eq_append_getElem hkl
            obtain ⟨f, hf⟩ : ∃ f, xf[k]'hkl = f := ⟨_, rfl⟩
            rw [hf] at h1 hfm htk2
            obtain ⟨kl, hkf⟩ := hkb.out _ hxm.out f hfm
            have hMp2 := hMp.out.one hkf
            rw [List.append_assoc, ← htk2] at hMp2
            obtain ⟨yk, yva, yse, yli, yki, yv⟩ := f
            have hkf2 : keyOf Try.prog 44 (.agg #[.string yk, .int .u32 (yva : Int), .int .u64 (yse : Int), .int .u64 (yli : Int), .int .u8 (yki : Int), .string yv]) = some kl := hkf
            simp only at h1
            have hkk : (0 : Int) ≤ (k : Int) ∧ (k : Int) < (xn : Int) := by omega
            have d3 : decide ((k : Int) < (xn : Int)) = true := decide_eq_true (by omega)
            replace hMp2 := Lib.hid hMp2
            replace hMp := Lib.hid hMp.out
            replace hown := Lib.hid hown
            replace hkf2 := Lib.hid hkf2
            clear hc hfm htk2 hf hkf hxf
            go_wp2_with (first | (at_mapUpdate; refine wpList_mapUpdate_own _ rfl _ _ _ 38 rfl 44 3 ftKeyed Try.underlying38 _ Bf q D rfl hown.out (by unfold maxLen; omega) _ _ kl rfl rfl hkf2.out (.lit (.int .i64 1)) [] (plainElem_int Try.underlying3 wf1) ?_; intro w3 hown1 hgrow1) | fail)
            have hB3 := hB.grown hgrow1 (by omega) (fun j hj => by cases hj; exact Nat.le_refl _)
            have hs3 := Nat.le_trans hsz hgrow1.size
            go_roundw
            case rel => exact ⟨k + 1, q + 1, _, by omega, by go_num, hMp2, hown1, by omega, hB3, hs3⟩
            case measure => simp [intOf] <;> omega
          · obtain rfl : k = xn := by omega
            have d3 : decide ((k : Int) < (k : Int)) = false := decide_eq_false (by omega)
            have hMp2 : Hid (Mp D ((ls.take (i + 1)).flatMap Sl.fs) []) := Lib.hid (by
              have h := hMp.out
              rw [List.take_of_length_le (l := xf) (by rw [hxn.out]; exact Nat.le_refl _), ← hfl.out] at h
              exact h)
            have hris2 : Hid (∀ x ∈ ls.take (i + 1), Ris x.fs) := Lib.hid (fun y hy => by
              rw [htk.out] at hy
              rcases List.mem_append.1 hy with h | h
              · exact hris.out y h
              · obtain rfl := List.mem_singleton.1 h
                exact hrx.out)
            replace hown := Lib.hid hown
            clear hxf
            go_wp2_with fail
            go_roundw
            case rel => exact ⟨i + 1, q, D, by omega, by go_num, hMp2, hown.out, by omega, hris2, hB, hsz⟩
            case measure => simp [intOf] <;> omega
    · obtain rfl : i = n := by omega
      have d2 : decide ((i : Int) < (i : Int)) = false := decide_eq_false (by omega)
      have htk : ls.take i = ls := List.take_of_length_le (by rw [hn.out]; exact Nat.le_refl _)
      rw [htk] at hMp hris
      obtain ⟨All, hAll⟩ : ∃ All, ls.flatMap Sl.fs = All := ⟨_, rfl⟩
      rw [hAll] at hMp
      obtain ⟨raw, hM⟩ := merge_total (ls.map Sl.fs)
      obtain ⟨al, hal⟩ : ∃ al, dd raw = al := ⟨_, rfl⟩
      obtain ⟨m, hm⟩ : ∃ m, al.length = m := ⟨_, rfl⟩
      have hml : m ≤ 1000 := by
        have h1 := (dd_sub raw).length_le
        have h2 := hM.len
        have h3 := htt.out
        rw [hal, hm] at h1
        omega
      have po := lawOf_any wr A i c ls hn.out (by omega) (hRw.out wr hB) raw hM (by rw [hM.len]; have := htt.out; omega)
      rw [hal, hm] at po
      have hral : Ris al := by
        rw [← hal]
        refine ((hM.srt (fun x hx => ?_)).dd).ris
        obtain ⟨y, hy, rfl⟩ := List.mem_map.1 hx
        exact (hris.out y hy).srt
      have mal : ∀ f, f ∈ All ↔ f ∈ al := fun f => by
        rw [← hal, ← hAll, dd_mem, hM.mem, List.mem_flatMap]
        constructor
        · rintro ⟨x, hx, hf⟩
          exact ⟨x.fs, List.mem_map.2 ⟨x, hx, rfl⟩, hf⟩
        · rintro ⟨y, hy, hf⟩
          obtain ⟨x, hx, rfl⟩ := List.mem_map.1 hy
          exact ⟨x, hx, hf⟩
      have kal : ∀ f ∈ al, Kb f := fun f hf => by
        have := (mal f).2 hf
        rw [← hAll] at this
        obtain ⟨x, hx, hfx⟩ := List.mem_flatMap.1 this
        exact hkb.out x hx f hfx
      have apart : ∀ j f g, al[j]? = some f → al[j + 1]? = some g → f ≠ g := fun j f g hf hg e => by
        rw [← hal] at hf hg
        exact dd_apart raw j f g hf hg e
      replace po := Lib.hid po
      replace hm := Lib.hid hm
      replace mal := Lib.hid mal
      replace kal := Lib.hid kal
      replace apart := Lib.hid apart
      replace hral := Lib.hid hral
      replace hown := Lib.hid hown
      clear hM hal hAll htk hris hten htt hkb hRw
      go_wp2_with fail
      refine po.out.mono ?_
      rintro _ w4 ⟨A4, c4, rfl, o4, b4⟩
      have f4 : Fs w4 A4 al := by unfold Fs; rw [hm.out]; exact Rd.of_own o4
      have hA4 : ∀ a, A4 = some a → Bf < a.block := fun a ha => by
        have := (o4.lt a.block (by rw [ha]; rfl)).1
        omega
      replace hown := Lib.hid (ownsMap_below hown.out b4 (by omega))
      have hB4 : Below Bf w w4 := hB.trans (b4.mono (by omega))
      have hs4 : Bf + 1 ≤ w4.heap.size := Nat.le_trans hsz b4.size
      have pr := rising_any w4 A4 m c4 al hm.out (by omega) f4
      replace pr := Lib.hid pr
      clear po o4 b4
      go_wp2_with fail
      refine pr.out.mono ?_
      rintro _ w5 ⟨bb, rfl, hb, b5⟩
      obtain rfl : bb = true := hb.2 hral.out
      have hB5 : Below Bf w w5 := hB4.trans (b5.mono (by omega))
      have hs5 := Nat.le_trans hs4 b5.size
      replace hown := Lib.hid (ownsMap_below hown.out b5 (by omega))
      replace f4 := Lib.hid (f4.below b5)
      replace hA4 := Lib.hid hA4
      clear pr hb b5 hB4 hs4 hB hsz hral
      go_wp2_with fail
      have hq5 : q ≤ 1000000 := by omega
      clear d1 d2 hlt hi hmm
      go_loopw [7] (fun v wr => ∃ (k p : Nat) (D : DataW Unit), k ≤ m ∧ v = .int .i64 (k : Int) ∧ Hid (Mp D All (al.take k)) ∧ wr.ownsMap Try.prog 44 (plainElem Try.prog 3) Bf p D ∧ p ≤ 1000000 + k ∧ KeepBut (fun x => x = Bf) w5 wr) (fun v _ => m - (intOf v).toNat)
      case atStart => exact ⟨0, q, D, by omega, rfl, Lib.hid (by simpa using hMp.out), hown.out, by omega, KeepBut.refl _⟩
      case round =>
        clear hMp hown
        obtain ⟨k, p, E, hk, rfl, hMp, hown, hp, hK⟩ := hrel
        have hsz : Bf + 1 ≤ wr.heap.size := Nat.le_trans hs5 hK.size
        have hB : Below Bf w wr := hB5.trans (hK.below (by omega) (fun x e => by omega))
        by_cases hkt : k < m
        · have hkl : k < al.length := by rw [hm.out]; exact hkt
          have f4r : Fs wr A4 al := Rd.but f4.out (fun a ha _ e => by have := hA4.out a ha; omega) hK
          obtain ⟨b, o, rfl, _, hc⟩ := f4r.at_ (i := k) hkl
          have h0 := hc k hkl
          have hfm := List.getElem_mem hkl
          have hgk : al[k]? = some al[k] := List.getElem?_eq_getElem hkl
          have htk2 : al.take (k + 1) = al.take k ++ [al[k]] := List.take_succ_eq_append_getElem hkl
          obtain ⟨f, hf⟩ : ∃ f, al[k]'hkl = f := ⟨_, rfl⟩
          rw [hf] at h0 hfm htk2 hgk
          obtain ⟨kl, hkf⟩ := kal.out f hfm
          have hfA : f ∈ All := (mal.out f).2 hfm
          obtain ⟨z, hz0, hlook⟩ := look hown hMp.out hkf hfA
          have hMp2 := hMp.out.two hkf hfA
          rw [← htk2] at hMp2
          obtain ⟨yk, yva, yse, yli, yki, yv⟩ := f
          have hkf2 : keyOf Try.prog 44 (.agg #[.string yk, .int .u32 (yva : Int), .int .u64 (yse : Int), .int .u64 (yli : Int), .int .u8 (yki : Int), .string yv]) = some kl := hkf
          simp only at h0
          simp only [Ft.val] at hlook
          have dz : (z == 0) = false := by simp [hz0]
          have hkk : (0 : Int) ≤ (k : Int) ∧ (k : Int) < (m : Int) := by omega
          have d3 : decide ((k : Int) < (m : Int)) = true := decide_eq_true (by omega)
          have hgd : Try.prog.eqGuardType Try.prog.depth 44 = false := by kernel_rfl
          replace hMp2 := Lib.hid hMp2
          replace hMp := Lib.hid hMp.out
          replace hown := Lib.hid hown
          replace hkf2 := Lib.hid hkf2
          replace hz0 := Lib.hid hz0
          replace hfm := Lib.hid hfm
          replace hgk := Lib.hid hgk
          replace hf := Lib.hid hf
          replace hK := Lib.hid hK
          replace hB := Lib.hid hB
          replace hkl := Lib.hid hkl
          clear htk2 hkf f4r hfA
          go_wp2_with fail
          by_cases hk0 : k = 0
          · have d2 : decide ((0 : Int) < (k : Int)) = false := decide_eq_false (by omega)
            have d2n : decide (0 < k) = false := decide_eq_false (by omega)
            replace hk0 := Lib.hid hk0
            clear hc
            go_quiet (fail)
            generalize hwq : World.drewN wr _ = wq
            have kq : KeepBut (fun _ => False) wr wq := by rw [← hwq]; exact (KeepBut.refl wr).drewN _
            replace hwq := Lib.hid hwq
            have hKq : KeepBut (fun x => x = Bf) w5 wq := hK.out.trans (kq.weak (fun _ _ e => e.elim))
            have hownq := ownsMap_keep hown.out kq (fun e => e)
            have f4q : Fs wq (some ⟨b, o, none⟩) al := Rd.but f4.out (fun a ha _ e => by have := hA4.out a ha; omega) hKq
            obtain ⟨b', o', e', _, hcq⟩ := f4q.at_ (i := k) hkl.out
            cases e'
            have h0q := hcq (k) hkl.out
            rw [hf.out] at h0q
            simp only at h0q
            replace hownq := Lib.hid hownq
            replace hKq := Lib.hid hKq
            clear h0 hcq f4q kq hlook
            go_wp2_with (first | (at_mapUpdate; refine wpList_mapUpdate_own _ rfl _ _ _ 38 rfl 44 3 ftKeyed Try.underlying38 _ Bf p E rfl hownq.out (by unfold maxLen; omega) _ _ kl rfl rfl hkf2.out (.lit (.int .i64 2)) [] (plainElem_int Try.underlying3 wf2) ?_; intro w7 hown1 hgrow1) | fail)
            have hK7 : KeepBut (fun x => x = Bf) w5 w7 := hKq.out.trans (KeepBut.of_grown hgrow1 (fun x e => by injection e with e; exact e.symm))
            go_roundw
            case rel => exact ⟨k + 1, p + 1, _, by omega, by go_num, hMp2, hown1, by omega, hK7⟩
            case measure => simp [intOf] <;> omega
          · obtain ⟨j, rfl⟩ : ∃ j, k = j + 1 := ⟨k - 1, by omega⟩
            have d2 : decide ((0 : Int) < ((j + 1 : Nat) : Int)) = true := decide_eq_true (by omega)
            have d2' : decide ((0 : Int) < (j : Int) + 1) = true := decide_eq_true (by omega)
            have hjn : j < al.length := by have := hkl.out; omega
            have h1 := hc j hjn
            have hgj : al[j]? = some al[j] := List.getElem?_eq_getElem hjn
            obtain ⟨g, hg⟩ : ∃ g, al[j]'hjn = g := ⟨_, rfl⟩
            rw [hg] at h1 hgj
            have hfg : (⟨yk, yva, yse, yli, yki, yv⟩ : Ft) ≠ g := fun e => apart.out j _ _ hgj hgk.out e.symm
            have heq := fun W => fact_eqv W ⟨yk, yva, yse, yli, yki, yv⟩ g
            simp only [decide_eq_false hfg, Ft.val] at heq
            have hsub : ((j : Int) + 1 - 1) = (j : Int) := by omega
            have hwrk : IntKind.i64.wrap (j : Int) = (j : Int) := IntWalk.i64_in _ (by omega)
            have hjj : (0 : Int) ≤ (j : Int) ∧ (j : Int) < (m : Int) := by omega
            have hjj1 : (0 : Int) ≤ (j : Int) + 1 ∧ (j : Int) + 1 < (m : Int) := by omega
            have htn : ((j : Int) + 1).toNat = j + 1 := by omega
            clear hjn hg hc hgj hfg
            go_quiet (fail)
            clear heq h1
            generalize hwq : World.drewN wr _ = wq
            have kq : KeepBut (fun _ => False) wr wq := by rw [← hwq]; exact (KeepBut.refl wr).drewN _
            replace hwq := Lib.hid hwq
            have hKq : KeepBut (fun x => x = Bf) w5 wq := hK.out.trans (kq.weak (fun _ _ e => e.elim))
            have hownq := ownsMap_keep hown.out kq (fun e => e)
            have f4q : Fs wq (some ⟨b, o, none⟩) al := Rd.but f4.out (fun a ha _ e => by have := hA4.out a ha; omega) hKq
            obtain ⟨b', o', e', _, hcq⟩ := f4q.at_ (i := (j + 1)) hkl.out
            cases e'
            have h0q := hcq ((j + 1)) hkl.out
            rw [hf.out] at h0q
            simp only at h0q
            replace hownq := Lib.hid hownq
            replace hKq := Lib.hid hKq
            clear h0 hcq f4q kq hlook
            go_wp2_with (first | (at_mapUpdate; refine wpList_mapUpdate_own _ rfl _ _ _ 38 rfl 44 3 ftKeyed Try.underlying38 _ Bf p E rfl hownq.out (by unfold maxLen; omega) _ _ kl rfl rfl hkf2.out (.lit (.int .i64 2)) [] (plainElem_int Try.underlying3 wf2) ?_; intro w7 hown1 hgrow1) | fail)
            have hK7 : KeepBut (fun x => x = Bf) w5 w7 := hKq.out.trans (KeepBut.of_grown hgrow1 (fun x e => by injection e with e; exact e.symm))
            go_roundw
            case rel => exact ⟨(j + 1) + 1, p + 1, _, by omega, by go_num, hMp2, hown1, by omega, hK7⟩
            case measure => simp [intOf] <;> omega
        · obtain rfl : k = m := by omega
          have d3 : decide ((k : Int) < (k : Int)) = false := decide_eq_false (by omega)
          have htk : al.take k = al := List.take_of_length_le (by rw [hm.out]; exact Nat.le_refl _)
          rw [htk] at hMp
          obtain ⟨r, hr⟩ : ∃ r, wr.heap.size = r := ⟨_, rfl⟩
          go_wp2_with (first | (at_range; refine wpList_range_own _ rfl _ 38 rfl 44 3 ftKeyed Try.underlying38 _ Bf p E rfl hown ?_; intro w6 hrg0 hg0 hs0) | fail)
          rw [hr] at hrg0
          have hB6 : Below Bf w w6 := hB.grown hg0 (by omega) (fun j hj => by cases hj)
          go_frame
          rw [hr]
          go_loopw [9] (fun _ wr => ∃ (left : Lit → Bool) (cnt : Nat), wr.ranges Try.prog 44 (plainElem Try.prog 3) Bf r p E left cnt ∧ Below Bf w wr ∧ Bf + 1 ≤ wr.heap.size) (fun _ wr => wr.rangeLeft Bf r)
          case atStart => exact ⟨_, _, hrg0, hB6, by omega⟩
          case round =>
            obtain ⟨left, cnt, hrg, hB7, hs7⟩ := hrel
            go_wp2_with (first
              | (at_next; refine wpList_next_ranges _ rfl _ rfl 44 ftKeyed _ (fun x : Value => x) (Value.int .i64) (fun key kl _ => ⟨key, rfl⟩) (fun v y hv => by obtain ⟨c, rfl, _⟩ := plainElem_int_inv Try.underlying3 hv; exact ⟨c, rfl⟩) Bf r p E _ _ rfl hrg ?_ ?_)
              | fail)
            · intro _ hl0
              go_wp2_with fail
              refine (lives_any _).mono ?_
              rintro _ w9 ⟨rfl, b9⟩
              have bf := hB7.trans (b9.mono (by omega))
              go_wp2
              go_ret
              exact ⟨rfl, bf⟩
            · intro x cz kl y ps w8 cnt1 hkx hlx hy hat hrg1 hlt1 hg1 hs8 hen
              obtain ⟨c', ec, ez, _⟩ := plainElem_int_inv Try.underlying3 hy
              cases ec
              cases ez
              obtain ⟨f, hfA, hkf⟩ := hMp.out.dom kl (has_true_of_atKey hat)
              have h2 := hMp.out.at_ f kl hkf
              rw [hat, if_pos ((mal.out f).1 hfA)] at h2
              obtain rfl : cz = 2 := by simpa using h2
              have hB8 := hB7.grown hg1 (by omega) (fun j hj => by cases hj; omega)
              clear hkx hy hat h2
              go_wp2_with fail
              go_roundw
              case rel => exact ⟨_, cnt1, hrg1, hB8, by omega⟩
              case measure => rw [hrg1.left_eq, hrg.left_eq]; exact hlt1

/-! ### from the walk to the statement (by tail.py) -/
set_option maxRecDepth 100000 in
theorem lifted (os : Os) (started : os.Started) (H : Type) (enc : TypeId × Value → H) :
    ReturnsInHanded {} Try.checked os 4 .any (Rows.joinsRiseSpec.pre6 enc Try.prog Try.f4 Rows.joinsRiseRow.domain false) (Rows.joinsRiseSpec.post enc Try.prog Try.f4 false true false false) := by
  refine lifted_of (C := Try.checked) (tb := 4) (n := 1) (by kernel_rfl) started (by kernel_rfl) Try.func4 (by kernel_rfl) (by kernel_rfl) rfl (by kernel_rfl) Try.underlying4 (by kernel_rfl)
    (fun ds hd => by match ds, hd with | [d1], _ => exact ⟨rfl, rfl, rfl⟩)
    (ChangeSpec.witness6 (enc := enc) (C := Try.checked) false ⟨#[], #[.slice none 0 0], []⟩ 8 (by kernel_rfl) (by kernel_rfl) (by kernel_rfl) (by kernel_rfl)) ?_
  intro W base args ds before hval hA hsz
  rw [Try.params4] at hA hval hsz
  obtain ⟨v0, vs0, d0, ds0, p0, q0, rfl, rfl, rfl, h0, r0⟩ := trodAll_cons hA
  obtain ⟨rfl, rfl, rfl⟩ := trodAll_nil r0
  obtain ⟨A0, c0, ls0, rfl, hR0, hkb0, hlm0, hcap0⟩ := open_ftrowsK (hval 0 _ _ rfl rfl) h0
  have hc0 := hcap0 hsz 0 rfl rfl
  exact walk W A0 c0 ls0 hR0 hkb0 (fun y hy => by have := reachBytes_lt; have := hc0.1 y hy; omega) (by have := reachBytes_lt; have := hc0.2; omega)

theorem over : Rows.joinsRiseRow.holds Try.pinned (OpenSpec.ofChange Rows.joinsRiseSpec) :=
  OpenClaim.holds_of_wide 4 Try.f4 rfl rfl rfl rfl rfl rfl rfl ⟨rfl, rfl, rfl, rfl, rfl⟩ rfl rfl rfl rfl rfl (by kernel_rfl) Try.func4 (by kernel_rfl)
    (of_decide_eq_true (by kernel_rfl)) (by unfold Func.isWrapper; first | (rw [if_pos (by decide +kernel)]; kernel_rfl) | (rw [if_neg (by decide +kernel)]; exact ⟨rfl, rfl⟩))
    (fun os started H enc _ => lifted os started H enc)

theorem proved : Rows.JoinsRiseSaid := over
end Go.Proofs.Ytnlmchbigpjamaa.lawJoinsRise
