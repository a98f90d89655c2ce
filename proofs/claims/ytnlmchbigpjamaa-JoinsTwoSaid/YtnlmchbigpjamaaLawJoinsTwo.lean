/- Two lists, and then a third one, are told as all three; one list is told as it is, each fact once: for every input. -/
import Derived.Test.YtnlmchbigpjamaaJnLives
import Derived.Test.YtnlmchbigpjamaaJnRising
import Derived.Test.YtnlmchbigpjamaaJnArg
import Derived.Deep.RegionHeld3
import Derived.BigQuiet
import Derived.Deep.QuietTactic
set_option linter.unusedSimpArgs false
set_option linter.unusedVariables false
namespace Go.Proofs.Ytnlmchbigpjamaa.lawJoinsTwo
open Go Go.RowKit Go.Shelf Herb Herb.Jn Go.ChangeShapes Go.WideShapes Go.ChangeAt
/-- The law's `of(..)` on lists whose telling is known. -/
theorem of_all (w : World) (A : Option Addr) (n c m : Nat) (ls : List Sl) (hn : ls.length = n) (hn2 : n ≤ 1000) (hR : Rows_ w A ls) (all : List Ft) (hs : ∀ x ∈ ls, srt x.fs) (ha : stc all) (hm : ∀ f, (∃ x ∈ ls, f ∈ x.fs) ↔ f ∈ all) (ht : total (ls.map Sl.fs) ≤ 1000000) (hl : all.length = m) :
    Calls Try.prog 16 #[.slice A n c] w fun e w' => ∃ A' c', e = .returned (.slice A' m c') ∧ Fs w' A' all ∧ Below w.heap.size w w' := by
  obtain ⟨out, hM⟩ := merge_total (ls.map Sl.fs)
  have e := merge_all hM (fun x hx => by
    obtain ⟨y, hy, rfl⟩ := List.mem_map.1 hx
    exact hs y hy) ha (fun f => by
    rw [← hm]
    constructor
    · rintro ⟨x, hx, hf⟩
      obtain ⟨y, hy, rfl⟩ := List.mem_map.1 hx
      exact ⟨y, hy, hf⟩
    · rintro ⟨y, hy, hf⟩
      exact ⟨y.fs, List.mem_map.2 ⟨y, hy, rfl⟩, hf⟩)
  have h := lawOf_any w A n c ls hn hn2 hR out hM (by rw [hM.len]; exact ht)
  rw [e, hl] at h
  refine h.mono ?_
  rintro r w' ⟨A', c', hr, ho, hb⟩
  exact ⟨A', c', hr, by unfold Fs; rw [hl]; exact Rd.of_own ho, hb⟩
set_option maxRecDepth 100000 in
set_option maxHeartbeats 6400000 in
theorem walk (w : World) (x y z : Sl) (fx : Fs w x.A x.fs) (fy : Fs w y.A y.fs) (fz : Fs w z.A z.fs) (lx : x.fs.length ≤ 9223372036854775807) (ly : y.fs.length ≤ 9223372036854775807) (lz : z.fs.length ≤ 9223372036854775807) :
    Calls Try.prog 5 #[.agg #[slV x, slV y, slV z]] w fun e w' => e = .returned (.bool true) ∧ Below w.heap.size w w' := by
  obtain ⟨xA, xf, xc⟩ := x
  obtain ⟨yA, yf, yc⟩ := y
  obtain ⟨zA, zf, zc⟩ := z
  simp only [slV] at fx fy fz lx ly lz ⊢
  obtain ⟨n1, hn1⟩ : ∃ n, xf.length = n := ⟨_, rfl⟩
  obtain ⟨n2, hn2⟩ : ∃ n, yf.length = n := ⟨_, rfl⟩
  obtain ⟨n3, hn3⟩ : ∃ n, zf.length = n := ⟨_, rfl⟩
  rw [hn1] at lx ⊢
  rw [hn2] at ly ⊢
  rw [hn3] at lz ⊢
  obtain ⟨Bf, hBf⟩ : ∃ Bf, w.heap.size = Bf := ⟨_, rfl⟩
  obtain ⟨w1, hw1⟩ : ∃ w1, w.alloc (.cells #[.slice xA n1 xc, .slice yA n2 yc, .slice zA n3 zc] 46) = w1 := ⟨_, rfl⟩
  have b1 : Below Bf w w1 := by rw [← hw1, ← hBf]; exact (Below.refl _ _).alloc (Nat.le_refl _) _
  have k1 : Blk w1 Bf 46 #[.slice xA n1 xc, .slice yA n2 yc, .slice zA n3 zc] := by rw [← hw1, ← hBf]; exact Blk.new w _ _
  have hs1 : w1.heap.size = Bf + 1 := by rw [← hw1, ← hBf]; simp
  replace fx : Fs w1 xA xf := fx.below (by rw [hBf]; exact b1)
  replace fy : Fs w1 yA yf := fy.below (by rw [hBf]; exact b1)
  replace fz : Fs w1 zA zf := fz.below (by rw [hBf]; exact b1)
  replace hn1 := Lib.hid hn1
  replace hn2 := Lib.hid hn2
  replace hn3 := Lib.hid hn3
  replace hw1 := Lib.hid hw1
  replace hBf' := Lib.hid hBf
  replace fx := Lib.hid fx
  replace fy := Lib.hid fy
  replace fz := Lib.hid fz
  rw [hBf]
  clear hBf
  go_enter Try.func5, Try.ntmps5
  go_wp2_with (first | rw [hBf'.out] | rw [hw1.out] | fail)
  go_loopw [3] (fun i wr => ∃ k : Nat, k ≤ 3 ∧ i = .int .i64 (k : Int) ∧ (1 ≤ k → n1 ≤ 300 ∧ Hid (Ris xf)) ∧ (2 ≤ k → n2 ≤ 300 ∧ Hid (Ris yf)) ∧ (3 ≤ k → n3 ≤ 300 ∧ Hid (Ris zf)) ∧ Below w1.heap.size w1 wr) (fun i _ => 3 - (intOf i).toNat)
  case atStart => exact ⟨0, by omega, rfl, fun h => by omega, fun h => by omega, fun h => by omega, Below.refl _ _⟩
  case round =>
    obtain ⟨k, hk, rfl, h1, h2, h3, hB⟩ := hrel
    have kr := k1.below hB k1.lt
    have cr := kr.cell
    clear kr
    by_cases e0 : k = 0
    · subst e0
      by_cases hbig : 300 < n1
      · have d1 : decide ((300 : Int) < (n1 : Int)) = true := decide_eq_true (by omega)
        clear h1 h2 h3
        go_wp2_with fail
        refine (lives_any _).mono ?_
        rintro _ w2 ⟨rfl, b2⟩
        have bf := b1.trans ((hB.trans (b2.mono hB.size)).mono (by omega))
        go_wp2
        go_ret
        exact ⟨rfl, bf⟩
      have d1 : decide ((300 : Int) < (n1 : Int)) = false := decide_eq_false (by omega)
      have hle : n1 ≤ 300 := by omega
      clear hbig
      have pr := rising_any wr xA n1 xc xf hn1.out (by omega) (fx.out.below hB)
      replace pr := Lib.hid pr
      go_wp2_with fail
      refine pr.out.mono ?_
      rintro _ w2 ⟨b, rfl, hb, b2⟩
      have hB2 := hB.trans (b2.mono hB.size)
      clear pr
      cases b
      · clear hb h1 h2 h3
        go_wp2_with fail
        refine (lives_any _).mono ?_
        rintro _ w3 ⟨rfl, b3⟩
        have bf := b1.trans ((hB2.trans (b3.mono hB2.size)).mono (by omega))
        go_wp2
        go_ret
        exact ⟨rfl, bf⟩
      · go_wp2
        go_roundw
        case rel => exact ⟨1, by omega, by go_num, fun _ => ⟨hle, Lib.hid (hb.1 trivial)⟩, fun h => by omega, fun h => by omega, hB2⟩
        case measure => simp [intOf] <;> omega
    by_cases e1 : k = 1
    · subst e1
      by_cases hbig : 300 < n2
      · have d1 : decide ((300 : Int) < (n2 : Int)) = true := decide_eq_true (by omega)
        clear h1 h2 h3
        go_wp2_with fail
        refine (lives_any _).mono ?_
        rintro _ w2 ⟨rfl, b2⟩
        have bf := b1.trans ((hB.trans (b2.mono hB.size)).mono (by omega))
        go_wp2
        go_ret
        exact ⟨rfl, bf⟩
      have d1 : decide ((300 : Int) < (n2 : Int)) = false := decide_eq_false (by omega)
      have hle : n2 ≤ 300 := by omega
      clear hbig
      have pr := rising_any wr yA n2 yc yf hn2.out (by omega) (fy.out.below hB)
      replace pr := Lib.hid pr
      go_wp2_with fail
      refine pr.out.mono ?_
      rintro _ w2 ⟨b, rfl, hb, b2⟩
      have hB2 := hB.trans (b2.mono hB.size)
      clear pr
      cases b
      · clear hb h1 h2 h3
        go_wp2_with fail
        refine (lives_any _).mono ?_
        rintro _ w3 ⟨rfl, b3⟩
        have bf := b1.trans ((hB2.trans (b3.mono hB2.size)).mono (by omega))
        go_wp2
        go_ret
        exact ⟨rfl, bf⟩
      · go_wp2
        go_roundw
        case rel => exact ⟨2, by omega, by go_num, fun _ => h1 (by omega), fun _ => ⟨hle, Lib.hid (hb.1 trivial)⟩, fun h => by omega, hB2⟩
        case measure => simp [intOf] <;> omega
    by_cases e2 : k = 2
    · subst e2
      by_cases hbig : 300 < n3
      · have d1 : decide ((300 : Int) < (n3 : Int)) = true := decide_eq_true (by omega)
        clear h1 h2 h3
        go_wp2_with fail
        refine (lives_any _).mono ?_
        rintro _ w2 ⟨rfl, b2⟩
        have bf := b1.trans ((hB.trans (b2.mono hB.size)).mono (by omega))
        go_wp2
        go_ret
        exact ⟨rfl, bf⟩
      have d1 : decide ((300 : Int) < (n3 : Int)) = false := decide_eq_false (by omega)
      have hle : n3 ≤ 300 := by omega
      clear hbig
      have pr := rising_any wr zA n3 zc zf hn3.out (by omega) (fz.out.below hB)
      replace pr := Lib.hid pr
      go_wp2_with fail
      refine pr.out.mono ?_
      rintro _ w2 ⟨b, rfl, hb, b2⟩
      have hB2 := hB.trans (b2.mono hB.size)
      clear pr
      cases b
      · clear hb h1 h2 h3
        go_wp2_with fail
        refine (lives_any _).mono ?_
        rintro _ w3 ⟨rfl, b3⟩
        have bf := b1.trans ((hB2.trans (b3.mono hB2.size)).mono (by omega))
        go_wp2
        go_ret
        exact ⟨rfl, bf⟩
      · go_wp2
        go_roundw
        case rel => exact ⟨3, by omega, by go_num, fun _ => h1 (by omega), fun _ => h2 (by omega), fun _ => ⟨hle, Lib.hid (hb.1 trivial)⟩, hB2⟩
        case measure => simp [intOf] <;> omega
    obtain rfl : k = 3 := by omega
    clear e0 e1 e2
    obtain ⟨l1, r1⟩ := h1 (by omega)
    obtain ⟨l2, r2⟩ := h2 (by omega)
    obtain ⟨l3, r3⟩ := h3 (by omega)
    clear h1 h2 h3 hk
    have bwr : Below Bf w wr := b1.trans (hB.mono (by omega))
    have swr : Bf + 1 ≤ wr.heap.size := by have := hB.size; omega
    have kr := k1.below hB k1.lt
    replace fx := Lib.hid (fx.out.below hB)
    replace fy := Lib.hid (fy.out.below hB)
    replace fz := Lib.hid (fz.out.below hB)
    have s1 : srt xf := r1.out.srt
    have s2 : srt yf := r2.out.srt
    have s3 : srt zf := r3.out.srt
    clear r1 r2 r3 k1 hB b1 hs1
    obtain ⟨w3, hw3⟩ : ∃ w3, wr.alloc (.cells #[.slice xA n1 xc, .slice yA n2 yc, .slice zA n3 zc] 26) = w3 := ⟨_, rfl⟩
    have b3 : Below wr.heap.size wr w3 := by rw [← hw3]; exact (Below.refl _ _).alloc (Nat.le_refl _) _
    have k3 : Blk w3 wr.heap.size 26 #[.slice xA n1 xc, .slice yA n2 yc, .slice zA n3 zc] := by rw [← hw3]; exact Blk.new wr _ _
    have R3 : Rows_ w3 (some ⟨wr.heap.size, 0, none⟩) [⟨xA, xf, xc⟩, ⟨yA, yf, yc⟩, ⟨zA, zf, zc⟩] := ⟨k3.rd rfl (fun j u hu => by simpa [slV, hn1.out, hn2.out, hn3.out] using hu), fun x hx => by
      simp only [List.mem_cons, List.not_mem_nil, or_false] at hx
      rcases hx with rfl | rfl | rfl
      · exact fx.out.below b3
      · exact fy.out.below b3
      · exact fz.out.below b3⟩
    obtain ⟨raw, hM⟩ := merge_total [xf, yf, zf]
    have hrl := hM.len
    obtain ⟨al, hal⟩ : ∃ al, dd raw = al := ⟨_, rfl⟩
    obtain ⟨m, hm⟩ : ∃ m, al.length = m := ⟨_, rfl⟩
    have htot : total [xf, yf, zf] = n1 + n2 + n3 := by simp [total, hn1.out, hn2.out, hn3.out]; try omega
    have hml : m ≤ 900 := by
      have h1 := (dd_sub raw).length_le
      rw [hal, hm, hrl, htot] at h1
      omega
    have po := lawOf_any w3 (some ⟨wr.heap.size, 0, none⟩) 3 3 [⟨xA, xf, xc⟩, ⟨yA, yf, yc⟩, ⟨zA, zf, zc⟩] rfl (by omega) R3 raw hM (by rw [hrl, htot]; omega)
    rw [hal, hm] at po
    have hsal : srt al := by
      rw [← hal]
      refine (hM.srt (fun x hx => ?_)).dd
      simp only [List.mem_cons, List.not_mem_nil, or_false] at hx
      rcases hx with rfl | rfl | rfl
      · exact s1
      · exact s2
      · exact s3
    have mal : ∀ f, (f ∈ xf ∨ f ∈ yf ∨ f ∈ zf) ↔ f ∈ al := fun f => by
      rw [← hal, dd_mem, hM.mem]
      simp
    replace hw3 := Lib.hid hw3
    replace po := Lib.hid po
    replace hm := Lib.hid hm
    replace mal := Lib.hid mal
    replace hsal := Lib.hid hsal
    replace s1 := Lib.hid s1
    replace s2 := Lib.hid s2
    replace s3 := Lib.hid s3
    clear hrl htot hM hal R3 k3
    go_wp2_with (first | rw [hw3.out] | fail)
    refine po.out.mono ?_
    rintro _ w4 ⟨A4, c4, rfl, o4, b4⟩
    have f4 : Fs w4 A4 al := by unfold Fs; rw [hm.out]; exact Rd.of_own o4
    have b34 : Below wr.heap.size wr w4 := b3.trans (b4.mono b3.size)
    have kr4 := kr.below b34 kr.lt
    replace fx := Lib.hid (fx.out.below b34)
    replace fy := Lib.hid (fy.out.below b34)
    replace fz := Lib.hid (fz.out.below b34)
    have bw4 : Below Bf w w4 := bwr.trans (b34.mono (by omega))
    have sw4 : Bf + 1 ≤ w4.heap.size := by have := b34.size; omega
    clear po hw3 b3 b4 b34 kr bwr swr o4 cr
    replace f4 := Lib.hid f4
    go_wp2_with fail
    go_loopw [5] (fun i wr => ∃ k : Nat, k ≤ m ∧ i = .int .i64 ((k : Int) + 1) ∧ Hid (∀ j f g, j < k → al[j]? = some f → al[j + 1]? = some g → cmpFt f g ≠ 0) ∧ Below w4.heap.size w4 wr) (fun i _ => m + 1 - (intOf i).toNat)
    case atStart => exact ⟨0, by omega, rfl, Lib.hid (fun j f g h => absurd h (by omega)), Below.refl _ _⟩
    case round =>
      obtain ⟨k, hk, rfl, hall, hB⟩ := hrel
      by_cases hlt : k + 1 < m
      · obtain ⟨b, o, rfl, _, hc⟩ := (f4.out.below hB).at_ (i := k) (by rw [hm.out]; omega)
        have h0 := hc k (by rw [hm.out]; omega)
        have h1 := hc (k + 1) (by rw [hm.out]; omega)
        obtain ⟨f, hf⟩ : ∃ f, al[k]'(by rw [hm.out]; omega) = f := ⟨_, rfl⟩
        obtain ⟨g, hg⟩ : ∃ g, al[k + 1]'(by rw [hm.out]; omega) = g := ⟨_, rfl⟩
        rw [hf] at h0
        rw [hg] at h1
        have hfk : al[k]? = some f := by rw [List.getElem?_eq_getElem (by rw [hm.out]; omega), hf]
        have hgk : al[k + 1]? = some g := by rw [List.getElem?_eq_getElem (by rw [hm.out]; omega), hg]
        obtain ⟨z, hz⟩ : ∃ z, cmpFt f g = z := ⟨_, rfl⟩
        have hz2 : cmpFt f g = 0 ↔ z = 0 := by rw [hz]
        obtain ⟨xk, xva, xse, xli, xki, xv⟩ := f
        obtain ⟨yk, yva, yse, yli, yki, yv⟩ := g
        simp only at h0 h1
        have pc := fun W => cmp_any W xk yk xv yv (xva : Int) (yva : Int) (xse : Int) (yse : Int) (xli : Int) (yli : Int) (xki : Int) (yki : Int)
        have e1 : cmpF xk yk (xva : Int) (yva : Int) (xse : Int) (yse : Int) (xki : Int) (yki : Int) = z := hz
        simp only [e1] at pc
        have e6 : o + (k + 1) * 6 = o + k * 6 + 6 := by omega
        have hsub : ((k : Int) + 1 - 1) = (k : Int) := by omega
        have hwrk : IntKind.i64.wrap (k : Int) = (k : Int) := IntWalk.i64_in _ (by omega)
        have d1 : decide ((k : Int) + 1 < (m : Int)) = true := decide_eq_true (by omega)
        have hkk : (0 : Int) ≤ (k : Int) ∧ (k : Int) < (m : Int) := by omega
        have hkk1 : (0 : Int) ≤ (k : Int) + 1 ∧ (k : Int) + 1 < (m : Int) := by omega
        have htn : ((k : Int) + 1).toNat = k + 1 := by omega
        replace hfk := Lib.hid hfk
        replace hgk := Lib.hid hgk
        replace hz := Lib.hid hz
        replace hz2 := Lib.hid hz2
        replace pc := Lib.hid pc
        clear hc hf hg e1 e6
        go_wp2_with fail
        refine still_tail 9 (by kernel_rfl) (by kernel_rfl) ?_
        simp only [List.take_succ_cons, List.take_zero, List.drop_succ_cons, List.drop_zero]
        iterate 9 still_step
        refine wpStill_nil ?_
        go_wp2_with fail
        refine (pc.out _).mono ?_
        rintro _ w6 ⟨rfl, b6⟩
        have hB2 := (hB.drew).trans (b6.mono (by exact hB.size))
        clear pc h0 h1
        by_cases hz0 : z = 0
        · have dz : (z == 0) = true := by simp [hz0]
          subst hz0
          go_wp2_with fail
          refine (lives_any _).mono ?_
          rintro _ w7 ⟨rfl, b7⟩
          have bf := bw4.trans ((hB2.trans (b7.mono hB2.size)).mono (by omega))
          go_wp2
          go_ret
          exact ⟨rfl, bf⟩
        · have dz : (z == 0) = false := by simp [hz0]
          go_wp2
          go_roundw
          case rel =>
            refine ⟨k + 1, by omega, by go_num, Lib.hid (fun j f' g' hj hf' hg' => ?_), hB2⟩
            by_cases e : j = k
            · subst e
              rw [hfk.out] at hf'
              rw [hgk.out] at hg'
              cases hf'
              cases hg'
              exact fun e => hz0 (hz2.out.1 e)
            · exact hall.out j f' g' (by omega) hf' hg'
          case measure => simp [intOf] <;> omega
      · have d1 : decide ((k : Int) + 1 < (m : Int)) = false := decide_eq_false (by omega)
        have hst : stc al := stc_of hsal.out (fun j f g hf hg => by
          have hj := (List.getElem?_eq_some_iff.1 hg).1
          rw [hm.out] at hj
          exact hall.out j f g (by omega) hf hg)
        replace hst := Lib.hid hst
        replace fx := Lib.hid (fx.out.below hB)
        replace fy := Lib.hid (fy.out.below hB)
        replace fz := Lib.hid (fz.out.below hB)
        replace f4 := Lib.hid (f4.out.below hB)
        have kr5 := kr4.below hB kr4.lt
        have bw5 : Below Bf w wr := bw4.trans (hB.mono (by omega))
        have sw5 : Bf + 1 ≤ wr.heap.size := by have := hB.size; omega
        clear hall hB kr4 bw4 sw4 hlt hk
        go_wp2_with fail
        obtain ⟨q1, hM1⟩ := merge_total [xf, yf]
        have hq1 := hM1.len
        have sq1 : srt q1 := hM1.srt (fun x hx => by
          simp only [List.mem_cons, List.not_mem_nil, or_false] at hx
          rcases hx with rfl | rfl
          · exact s1.out
          · exact s2.out)
        have mq1 : ∀ f, (f ∈ xf ∨ f ∈ yf) ↔ f ∈ dd q1 := fun f => by
          rw [dd_mem, hM1.mem]
          simp
        obtain ⟨p1, hp1⟩ : ∃ p1, dd q1 = p1 := ⟨_, rfl⟩
        have sp1 : stc p1 := by
          rw [← hp1]
          refine dd_stc sq1 hst.out (fun f hf => (mal.out f).1 ?_)
          rcases (mq1 f).2 ((dd_mem _ _).2 hf) with h | h
          · exact .inl h
          · exact .inr (.inl h)
        obtain ⟨mp, hmp⟩ : ∃ mp, p1.length = mp := ⟨_, rfl⟩
        have hmp6 : mp ≤ 600 := by
          have h1 := (dd_sub q1).length_le
          have h2 : total [xf, yf] = n1 + n2 := by simp [total, hn1.out, hn2.out]
          rw [hp1, hmp, hq1, h2] at h1
          omega
        rw [hp1] at mq1
        have rp1 : srt p1 := List.Pairwise.imp (fun h => by omega) sp1
        clear hq1 sq1 hM1 hp1
        have kx : ∀ W, Below wr.heap.size wr W → ∀ i, W.cell? ⟨Bf, i, none⟩ = (#[.slice xA n1 xc, .slice yA n2 yc, .slice zA n3 zc] : Array Value)[i]? := fun W hW => (kr5.below hW kr5.lt).cell
        have pof2 := fun (W : World) (A : Option Addr) (hR : Rows_ W A [⟨xA, xf, xc⟩, ⟨yA, yf, yc⟩]) => of_all W A 2 2 mp _ rfl (by omega) hR p1 (fun x hx => by
          simp only [List.mem_cons, List.not_mem_nil, or_false] at hx
          rcases hx with rfl | rfl
          · exact s1.out
          · exact s2.out) sp1 (fun f => by rw [← mq1]; simp) (by simp [total, hn1.out, hn2.out]; omega) hmp
        have pof3 := fun (W : World) (A A7 : Option Addr) (c7 : Nat) (hR : Rows_ W A [⟨A7, p1, c7⟩, ⟨zA, zf, zc⟩]) => of_all W A 2 2 m _ rfl (by omega) hR al (fun x hx => by
          simp only [List.mem_cons, List.not_mem_nil, or_false] at hx
          rcases hx with rfl | rfl
          · exact rp1
          · exact s3.out) hst.out (fun f => by rw [← mal.out, ← or_assoc, mq1]; simp) (by simp [total, hmp, hn3.out]; omega) hm.out
        have pof4 := fun (W : World) (A : Option Addr) (hR : Rows_ W A [⟨zA, zf, zc⟩, ⟨xA, xf, xc⟩, ⟨yA, yf, yc⟩]) => of_all W A 3 3 m _ rfl (by omega) hR al (fun x hx => by
          simp only [List.mem_cons, List.not_mem_nil, or_false] at hx
          rcases hx with rfl | rfl | rfl
          · exact s3.out
          · exact s1.out
          · exact s2.out) hst.out (fun f => by
          rw [← mal.out]
          simp only [List.mem_cons, List.not_mem_nil, or_false, exists_eq_or_imp, exists_eq_left]
          constructor
          · rintro (h | h | h)
            · exact .inr (.inr h)
            · exact .inl h
            · exact .inr (.inl h)
          · rintro (h | h | h)
            · exact .inr (.inl h)
            · exact .inr (.inr h)
            · exact .inl h) (by simp [total, hn1.out, hn2.out, hn3.out]; omega) hm.out
        replace kx := Lib.hid kx
        replace pof2 := Lib.hid pof2
        replace pof3 := Lib.hid pof3
        replace pof4 := Lib.hid pof4
        replace hmp := Lib.hid hmp
        replace sp1 := Lib.hid sp1
        replace rp1 := Lib.hid rp1
        replace mq1 := Lib.hid mq1
        replace kr5 := Lib.hid kr5
        have hfol : Try.prog.follows .mixedOrders = true := by kernel_rfl
        have hS0 : Below wr.heap.size wr wr.drew := (Below.refl _ _).drew
        refine wp_region_held (S := fun W => Below wr.heap.size wr W) hfol ?_
        refine wpAnyH_take (i := 0) (v := .pointer (some ⟨Bf, 0, none⟩)) rfl (by kernel_rfl) (by kernel_rfl) (by kernel_rfl) (fun _ _ _ h => h) (.inl ⟨by kernel_rfl, fun W hW => by go_simp⟩) hS0 ?_
        try dsimp only [Act.put]
        try simp only [List.setIfInBounds_toArray, List.set_cons_zero, List.set_cons_succ]
        refine wpAnyH_take (i := 1) (v := .slice xA n1 xc) rfl (by kernel_rfl) (by kernel_rfl) (by kernel_rfl) (fun _ _ _ h => h) (.inl ⟨by kernel_rfl, fun W hW => by have h1 := kx.out W hW; go_simp⟩) hS0 ?_
        try dsimp only [Act.put]
        try simp only [List.setIfInBounds_toArray, List.set_cons_zero, List.set_cons_succ]
        refine wpAnyH_take (i := 2) (v := .pointer (some ⟨Bf, 1, none⟩)) rfl (by kernel_rfl) (by kernel_rfl) (by kernel_rfl) (fun _ _ _ h => h) (.inl ⟨by kernel_rfl, fun W hW => by go_simp⟩) hS0 ?_
        try dsimp only [Act.put]
        try simp only [List.setIfInBounds_toArray, List.set_cons_zero, List.set_cons_succ]
        refine wpAnyH_take (i := 3) (v := .slice yA n2 yc) rfl (by kernel_rfl) (by kernel_rfl) (by kernel_rfl) (fun _ _ _ h => h) (.inl ⟨by kernel_rfl, fun W hW => by have h1 := kx.out W hW; go_simp⟩) hS0 ?_
        try dsimp only [Act.put]
        try simp only [List.setIfInBounds_toArray, List.set_cons_zero, List.set_cons_succ]
        refine wpAnyH_take (i := 6) (v := .pointer (some ⟨Bf, 2, none⟩)) rfl (by kernel_rfl) (by kernel_rfl) (by kernel_rfl) (fun _ _ _ h => h) (.inl ⟨by kernel_rfl, fun W hW => by go_simp⟩) hS0 ?_
        try dsimp only [Act.put]
        try simp only [List.setIfInBounds_toArray, List.set_cons_zero, List.set_cons_succ]
        refine wpAnyH_take (i := 7) (v := .slice zA n3 zc) rfl (by kernel_rfl) (by kernel_rfl) (by kernel_rfl) (fun _ _ _ h => h) (.inl ⟨by kernel_rfl, fun W hW => by have h1 := kx.out W hW; go_simp⟩) hS0 ?_
        try dsimp only [Act.put]
        try simp only [List.setIfInBounds_toArray, List.set_cons_zero, List.set_cons_succ]
        refine wpAnyH_take (i := 10) (v := .slice A4 m c4) rfl (by kernel_rfl) (by kernel_rfl) (by kernel_rfl) (fun _ _ _ h => h) (.inl ⟨by kernel_rfl, fun W hW => by go_simp⟩) hS0 ?_
        try dsimp only [Act.put]
        try simp only [List.setIfInBounds_toArray, List.set_cons_zero, List.set_cons_succ]
        refine wpAnyH_ready (rs := [4]) (by kernel_rfl) (by simp) (AllReadyH.cons rfl (fun K' hK => ?_) AllReadyH.nil)
        go_simp
        have hS1 := hS0.alloc hS0.size (.cells #[.slice xA n1 xc, .slice yA n2 yc] 26)
        have k6 := Blk.new wr.drew 26 #[.slice xA n1 xc, .slice yA n2 yc]
        refine hK.out _ _ hS1 (fun _ => ?_)
        clear hK K'
        try dsimp only [Act.put]
        try simp only [List.setIfInBounds_toArray, List.set_cons_zero, List.set_cons_succ]
        refine wpAnyH_ready (rs := [5]) (by kernel_rfl) (by simp) (AllReadyH.cons rfl (fun K' hK => ?_) AllReadyH.nil)
        go_simp
        go_at_call 16
        refine (pof2.out _ _ ⟨k6.rd rfl (fun j u hu => by simpa [slV, hn1.out, hn2.out] using hu), fun x hx => by
          simp only [List.mem_cons, List.not_mem_nil, or_false] at hx
          rcases hx with rfl | rfl
          · exact fx.out.below hS1
          · exact fy.out.below hS1⟩).mono ?_
        rintro _ w7 ⟨A7, c7, rfl, f7, b7⟩
        have hS2 : Below wr.heap.size wr w7 := hS1.trans (b7.mono hS1.size)
        replace f7 := Lib.hid f7
        refine hK.out _ _ hS2 (fun _ => ?_)
        clear hK K'
        try dsimp only [Act.put]
        try simp only [List.setIfInBounds_toArray, List.set_cons_zero, List.set_cons_succ]
        refine wpAnyH_ready (rs := [8]) (by kernel_rfl) (by simp) (AllReadyH.cons rfl (fun K' hK => ?_) AllReadyH.nil)
        go_simp
        have hS3 := hS2.alloc hS2.size (.cells #[.slice A7 mp c7, .slice zA n3 zc] 26)
        have k8 := Blk.new w7 26 #[.slice A7 mp c7, .slice zA n3 zc]
        refine hK.out _ _ hS3 (fun _ => ?_)
        clear hK K'
        try dsimp only [Act.put]
        try simp only [List.setIfInBounds_toArray, List.set_cons_zero, List.set_cons_succ]
        refine wpAnyH_ready (rs := [9]) (by kernel_rfl) (by simp) (AllReadyH.cons rfl (fun K' hK => ?_) AllReadyH.nil)
        go_simp
        go_at_call 16
        refine (pof3.out _ _ A7 c7 ⟨k8.rd rfl (fun j u hu => by simpa [slV, hmp.out, hn3.out] using hu), fun x hx => by
          simp only [List.mem_cons, List.not_mem_nil, or_false] at hx
          rcases hx with rfl | rfl
          · exact f7.out.below ((Below.refl _ w7).alloc (Nat.le_refl _) _)
          · exact fz.out.below hS3⟩).mono ?_
        rintro _ w9 ⟨A9, c9, rfl, f9, b9⟩
        have hS4 : Below wr.heap.size wr w9 := hS3.trans (b9.mono hS3.size)
        replace f9 := Lib.hid f9
        refine hK.out _ _ hS4 (fun _ => ?_)
        clear hK K'
        try dsimp only [Act.put]
        try simp only [List.setIfInBounds_toArray, List.set_cons_zero, List.set_cons_succ]
        refine wpAnyH_ready (rs := [11]) (by kernel_rfl) (by simp) (AllReadyH.cons rfl (fun K' hK => ?_) AllReadyH.nil)
        go_simp
        go_at_call 13
        refine (sameFt_yes w9 A9 A4 m c9 c4 al hm.out (by omega) f9.out (f4.out.below hS4)).mono ?_
        rintro _ w10 ⟨rfl, b10⟩
        have hS5 : Below wr.heap.size wr w10 := hS4.trans (b10.mono hS4.size)
        refine hK.out _ _ hS5 (fun _ => ?_)
        clear hK K'
        try dsimp only [Act.put]
        try simp only [List.setIfInBounds_toArray, List.set_cons_zero, List.set_cons_succ]
        refine wpAnyH_take (i := 12) (v := .bool false) rfl (by kernel_rfl) (by kernel_rfl) (by kernel_rfl) (fun _ _ _ h => h) (.inl ⟨by kernel_rfl, fun W hW => by go_simp⟩) hS5 ?_
        try dsimp only [Act.put]
        try simp only [List.setIfInBounds_toArray, List.set_cons_zero, List.set_cons_succ]
        refine wpAnyH_take (i := 13) (v := .bool false) rfl (by kernel_rfl) (by kernel_rfl) (by kernel_rfl) (fun _ _ _ h => h) (.inl ⟨by kernel_rfl, fun W hW => by go_simp⟩) hS5 ?_
        try dsimp only [Act.put]
        try simp only [List.setIfInBounds_toArray, List.set_cons_zero, List.set_cons_succ]
        refine wpAnyH_take (i := 14) (v := .pointer (some ⟨Bf, 2, none⟩)) rfl (by kernel_rfl) (by kernel_rfl) (by kernel_rfl) (fun _ _ _ h => h) (.inl ⟨by kernel_rfl, fun W hW => by go_simp⟩) hS5 ?_
        try dsimp only [Act.put]
        try simp only [List.setIfInBounds_toArray, List.set_cons_zero, List.set_cons_succ]
        refine wpAnyH_take (i := 15) (v := .slice zA n3 zc) rfl (by kernel_rfl) (by kernel_rfl) (by kernel_rfl) (fun _ _ _ h => h) (.inl ⟨by kernel_rfl, fun W hW => by have h1 := kx.out W hW; go_simp⟩) hS5 ?_
        try dsimp only [Act.put]
        try simp only [List.setIfInBounds_toArray, List.set_cons_zero, List.set_cons_succ]
        refine wpAnyH_take (i := 16) (v := .pointer (some ⟨Bf, 0, none⟩)) rfl (by kernel_rfl) (by kernel_rfl) (by kernel_rfl) (fun _ _ _ h => h) (.inl ⟨by kernel_rfl, fun W hW => by go_simp⟩) hS5 ?_
        try dsimp only [Act.put]
        try simp only [List.setIfInBounds_toArray, List.set_cons_zero, List.set_cons_succ]
        refine wpAnyH_take (i := 17) (v := .slice xA n1 xc) rfl (by kernel_rfl) (by kernel_rfl) (by kernel_rfl) (fun _ _ _ h => h) (.inl ⟨by kernel_rfl, fun W hW => by have h1 := kx.out W hW; go_simp⟩) hS5 ?_
        try dsimp only [Act.put]
        try simp only [List.setIfInBounds_toArray, List.set_cons_zero, List.set_cons_succ]
        refine wpAnyH_take (i := 18) (v := .pointer (some ⟨Bf, 1, none⟩)) rfl (by kernel_rfl) (by kernel_rfl) (by kernel_rfl) (fun _ _ _ h => h) (.inl ⟨by kernel_rfl, fun W hW => by go_simp⟩) hS5 ?_
        try dsimp only [Act.put]
        try simp only [List.setIfInBounds_toArray, List.set_cons_zero, List.set_cons_succ]
        refine wpAnyH_take (i := 19) (v := .slice yA n2 yc) rfl (by kernel_rfl) (by kernel_rfl) (by kernel_rfl) (fun _ _ _ h => h) (.inl ⟨by kernel_rfl, fun W hW => by have h1 := kx.out W hW; go_simp⟩) hS5 ?_
        try dsimp only [Act.put]
        try simp only [List.setIfInBounds_toArray, List.set_cons_zero, List.set_cons_succ]
        refine wpAnyH_take (i := 22) (v := .slice A4 m c4) rfl (by kernel_rfl) (by kernel_rfl) (by kernel_rfl) (fun _ _ _ h => h) (.inl ⟨by kernel_rfl, fun W hW => by go_simp⟩) hS5 ?_
        try dsimp only [Act.put]
        try simp only [List.setIfInBounds_toArray, List.set_cons_zero, List.set_cons_succ]
        refine wpAnyH_ready (rs := [20]) (by kernel_rfl) (by simp) (AllReadyH.cons rfl (fun K' hK => ?_) AllReadyH.nil)
        go_simp
        have hS6 := hS5.alloc hS5.size (.cells #[.slice zA n3 zc, .slice xA n1 xc, .slice yA n2 yc] 26)
        have k11 := Blk.new w10 26 #[.slice zA n3 zc, .slice xA n1 xc, .slice yA n2 yc]
        refine hK.out _ _ hS6 (fun _ => ?_)
        clear hK K'
        try dsimp only [Act.put]
        try simp only [List.setIfInBounds_toArray, List.set_cons_zero, List.set_cons_succ]
        refine wpAnyH_ready (rs := [21]) (by kernel_rfl) (by simp) (AllReadyH.cons rfl (fun K' hK => ?_) AllReadyH.nil)
        go_simp
        go_at_call 16
        refine (pof4.out _ _ ⟨k11.rd rfl (fun j u hu => by simpa [slV, hn1.out, hn2.out, hn3.out] using hu), fun x hx => by
          simp only [List.mem_cons, List.not_mem_nil, or_false] at hx
          rcases hx with rfl | rfl | rfl
          · exact fz.out.below hS6
          · exact fx.out.below hS6
          · exact fy.out.below hS6⟩).mono ?_
        rintro _ w12 ⟨A12, c12, rfl, f12, b12⟩
        have hS7 : Below wr.heap.size wr w12 := hS6.trans (b12.mono hS6.size)
        replace f12 := Lib.hid f12
        refine hK.out _ _ hS7 (fun _ => ?_)
        clear hK K'
        try dsimp only [Act.put]
        try simp only [List.setIfInBounds_toArray, List.set_cons_zero, List.set_cons_succ]
        refine wpAnyH_ready (rs := [23]) (by kernel_rfl) (by simp) (AllReadyH.cons rfl (fun K' hK => ?_) AllReadyH.nil)
        go_simp
        go_at_call 13
        refine (sameFt_yes w12 A12 A4 m c12 c4 al hm.out (by omega) f12.out (f4.out.below hS7)).mono ?_
        rintro _ w13 ⟨rfl, b13⟩
        have hS8 : Below wr.heap.size wr w13 := hS7.trans (b13.mono hS7.size)
        refine hK.out _ _ hS8 (fun _ => ?_)
        clear hK K'
        try dsimp only [Act.put]
        try simp only [List.setIfInBounds_toArray, List.set_cons_zero, List.set_cons_succ]
        refine wpAnyH_take (i := 24) (v := .bool false) rfl (by kernel_rfl) (by kernel_rfl) (by kernel_rfl) (fun _ _ _ h => h) (.inl ⟨by kernel_rfl, fun W hW => by go_simp⟩) hS8 ?_
        try dsimp only [Act.put]
        try simp only [List.setIfInBounds_toArray, List.set_cons_zero, List.set_cons_succ]
        refine wpAnyH_take (i := 25) (v := .bool false) rfl (by kernel_rfl) (by kernel_rfl) (by kernel_rfl) (fun _ _ _ h => h) (.inl ⟨by kernel_rfl, fun W hW => by go_simp⟩) hS8 ?_
        try dsimp only [Act.put]
        try simp only [List.setIfInBounds_toArray, List.set_cons_zero, List.set_cons_succ]
        refine wpAnyH_done (by kernel_rfl) ?_ _
        obtain ⟨G, hG⟩ : ∃ G, w13.heap.size = G := ⟨_, rfl⟩
        have kr6 := kr5.out.below hS8 kr5.out.lt
        have bw6 : Below Bf w w13 := bw5.trans (hS8.mono (by omega))
        have sw6 : Bf + 1 ≤ G := by have := hS8.size; omega
        replace fx := Lib.hid (fx.out.below hS8)
        have sdd : stc (dd xf) := dd_stc s1.out hst.out (fun f hf => (mal.out f).1 (.inl hf))
        replace sdd := Lib.hid sdd
        clear hS0 hS1 hS2 hS3 hS4 hS5 hS6 hS7 hS8 k6 k8 k11 b7 b9 b10 b12 b13 f7 f9 f12 kr5 kx pof2 pof3 pof4 hmp sp1 rp1 mq1 hfol fy fz f4 mal hst bw5 sw5 d1
        go_wp2_with fail
        go_loopw [6, 7] (fun v6 i wr => ∃ k m' : Nat, k ≤ n1 ∧ i = .int .i64 (k : Int) ∧ Hid ((dd (xf.take k)).length = m') ∧ m' ≤ k ∧ wr.ownsRow G 44 6 v6 m' (ftC (dd (xf.take k))) ∧ Below G w13 wr) (fun v6 i _ => n1 - (intOf i).toNat)
        case atStart => exact ⟨0, 0, by omega, rfl, Lib.hid rfl, Nat.le_refl _, World.ownsRow_nil _ _ _ _, Below.refl _ _⟩
        case round =>
          obtain ⟨k, m', hk, rfl, hm', hmk, how, hB⟩ := hrel
          have krr := kr6.below (by rw [hG]; exact hB) kr6.lt
          have swr : G ≤ wr.heap.size := by rw [← hG]; exact Nat.le_trans (by omega) hB.size
          by_cases hlt : k < n1
          · have cr := krr.cell
            have hkn : k < xf.length := by rw [hn1.out]; exact hlt
            have fxr : Fs wr xA xf := fx.out.below (by rw [hG]; exact hB)
            obtain ⟨b, off, rfl, _, hc⟩ := fxr.at_ (i := k) hkn
            have h0 := hc k hkn
            obtain ⟨f, hf⟩ : ∃ f, xf[k]'hkn = f := ⟨_, rfl⟩
            rw [hf] at h0
            have htk : xf.take (k + 1) = xf.take k ++ [f] := by
              rw [List.take_succ_eq_append_getElem hkn, hf]
            have d1 : decide ((k : Int) < (n1 : Int)) = true := decide_eq_true (by omega)
            have hkk : (0 : Int) ≤ (k : Int) ∧ (k : Int) < (n1 : Int) := by omega
            obtain ⟨A6, c6, rfl⟩ := own_slice how
            have hgd : Try.prog.eqGuardType Try.prog.depth 44 = false := by kernel_rfl
            have one6 : Hid (∀ u ∈ ftC [f], u.oneCell' = true) := Lib.hid (ftC_one [f])
            replace hB := Lib.hid hB
            replace how := Lib.hid how
            replace krr := Lib.hid krr
            replace htk := Lib.hid htk
            replace swr := Lib.hid swr
            replace hkn := Lib.hid hkn
            replace hf := Lib.hid hf
            clear fxr
            go_wp2_with fail
            by_cases hk0 : k = 0
            · have d2 : ((k : Int) == 0) = true := by simp [hk0]
              clear hc
              have hdds : dd (xf.take k ++ [f]) = dd (xf.take k) ++ [f] := by
                rw [hk0]
                rfl
              replace hk0 := Lib.hid hk0
              replace hdds := Lib.hid hdds
              go_quiet (fail)
              generalize hwq : World.drewN wr _ = wq
              have kq : KeepBut (fun _ => False) wr wq := by rw [← hwq]; exact (KeepBut.refl wr).drewN _
              replace hwq := Lib.hid hwq
              have bq : Below wr.heap.size wr wq := kq.below (Nat.le_refl _) (fun _ e => e.elim)
              have howq := kq.own how.out (fun _ _ e => e)
              have hBq : Below G w13 wq := hB.out.trans (bq.mono swr.out)
              have sq : G ≤ wq.heap.size := Nat.le_trans swr.out kq.size
              have cq := (kq.blk krr.out (fun e => e)).cell
              have fxq : Fs wq (some ⟨b, off, none⟩) xf := fx.out.below (by rw [hG]; exact hBq)
              obtain ⟨b', off', e', _, hcq⟩ := fxq.at_ (i := k) hkn.out
              cases e'
              have h0q := hcq k hkn.out
              rw [hf.out] at h0q
              obtain ⟨xk, xva, xse, xli, xki, xv⟩ := f
              simp only at h0q
              have how6 := howq.alloc (.cells #[.string xk, .int .u32 (xva : Int), .int .u64 (xse : Int), .int .u64 (xli : Int), .int .u8 (xki : Int), .string xv] 44)
              have rd6 : Rd (wq.alloc (.cells #[.string xk, .int .u32 (xva : Int), .int .u64 (xse : Int), .int .u64 (xli : Int), .int .u8 (xki : Int), .string xv] 44)) 6 (some ⟨wq.heap.size, 0, none⟩) 1 (ftC [⟨xk, xva, xse, xli, xki, xv⟩]) := Rd.ft wq 44 ⟨xk, xva, xse, xli, xki, xv⟩
              have sz6 : G ≤ (wq.alloc (.cells #[.string xk, .int .u32 (xva : Int), .int .u64 (xse : Int), .int .u64 (xli : Int), .int .u8 (xki : Int), .string xv] 44)).heap.size := by simp; omega
              have hB6 := hBq.alloc sq (.cells #[.string xk, .int .u32 (xva : Int), .int .u64 (xse : Int), .int .u64 (xli : Int), .int .u8 (xki : Int), .string xv] 44)
              replace hB6 := Lib.hid hB6
              replace sz6 := Lib.hid sz6
              replace rd6 := Lib.hid rd6
              replace how6 := Lib.hid how6
              clear howq hBq cr bq kq h0 hcq fxq sq
              go_wp2_with (first | (at_builtin; refine wpList_app _ rfl (.tmp 100) (.tmp 106) rfl Try.underlying26 ftInfo rfl (by omega) how6.out rfl _ 1 1 rd6.out rfl one6.out (by unfold maxLen; omega) (by omega) sz6.out ?_; intro v2 w7 hown2 hgrow2 hlies2) | fail)
              have hm2 : Hid ((dd (xf.take (k + 1))).length = m' + 1) := Lib.hid (by rw [htk.out, hdds.out, List.length_append, hm'.out]; rfl)
              have ho7 : w7.ownsRow G 44 6 v2 (m' + 1) (ftC (dd (xf.take (k + 1)))) := by rw [htk.out, hdds.out, ftC_append]; exact hown2
              have hB7 := below_app hB6.out how6.out (by omega) (by have := sz6.out; omega) hgrow2
              replace ho7 := Lib.hid ho7
              go_roundw
              case rel => exact ⟨k + 1, m' + 1, by omega, by go_num, hm2, by omega, ho7.out, hB7⟩
              case measure => simp [intOf] <;> omega
            · obtain ⟨j, rfl⟩ : ∃ j, k = j + 1 := ⟨k - 1, by omega⟩
              have d2 : (((j + 1 : Nat) : Int) == 0) = false := by simp; omega
              have d3 : ((j : Int) + 1 == 0) = false := by simp; omega
              have hjn : j < xf.length := by have := hkn.out; omega
              have h1 := hc j hjn
              obtain ⟨g, hg⟩ : ∃ g, xf[j]'hjn = g := ⟨_, rfl⟩
              rw [hg] at h1
              have hlast : (dd (xf.take (j + 1))).getLast? = some g := by
                rw [dd_last, List.take_succ_eq_append_getElem hjn, hg]
                simp
              have heq := fun W => fact_eqv W f g
              have hsub : ((j : Int) + 1 - 1) = (j : Int) := by omega
              have hwrk : IntKind.i64.wrap (j : Int) = (j : Int) := IntWalk.i64_in _ (by omega)
              have hjj : (0 : Int) ≤ (j : Int) ∧ (j : Int) < (n1 : Int) := by omega
              have hjj1 : (0 : Int) ≤ (j : Int) + 1 ∧ (j : Int) + 1 < (n1 : Int) := by omega
              have htn : ((j : Int) + 1).toNat = j + 1 := by omega
              clear hjn hg hc
              replace hlast := Lib.hid hlast
              obtain ⟨fk', hfk'⟩ : ∃ F, F = f := ⟨_, rfl⟩
              by_cases hfg : f = g
              · have hdds : dd (xf.take (j + 1 + 1)) = dd (xf.take (j + 1)) := by
                  rw [htk.out, dd_snoc]
                  unfold ddS
                  rw [if_pos (by rw [hlast.out, hfg])]
                simp only [decide_eq_true hfg, Ft.val] at heq
                replace hdds := Lib.hid hdds
                replace hfg := Lib.hid hfg
                replace hfk' := Lib.hid hfk'
                go_quiet (fail)
                generalize hwq : World.drewN wr _ = wq
                have kq : KeepBut (fun _ => False) wr wq := by rw [← hwq]; exact (KeepBut.refl wr).drewN _
                replace hwq := Lib.hid hwq
                have bq : Below wr.heap.size wr wq := kq.below (Nat.le_refl _) (fun _ e => e.elim)
                have howq := kq.own how.out (fun _ _ e => e)
                have hBq : Below G w13 wq := hB.out.trans (bq.mono swr.out)
                rw [← hdds.out] at howq
                clear heq
                go_wp2
                go_roundw
                case rel => exact ⟨j + 1 + 1, m', by omega, by go_num, Lib.hid (by rw [hdds.out]; exact hm'.out), by omega, howq, hBq⟩
                case measure => simp [intOf] <;> omega
              · have hdds : dd (xf.take (j + 1) ++ [f]) = dd (xf.take (j + 1)) ++ [f] := by
                  rw [dd_snoc]
                  unfold ddS
                  rw [if_neg]
                  rw [hlast.out]
                  intro e
                  injection e with e
                  exact hfg e.symm
                simp only [decide_eq_false hfg, Ft.val] at heq
                replace hdds := Lib.hid hdds
                replace hfg := Lib.hid hfg
                replace hfk' := Lib.hid hfk'
                go_quiet (fail)
                clear heq
                generalize hwq : World.drewN wr _ = wq
                have kq : KeepBut (fun _ => False) wr wq := by rw [← hwq]; exact (KeepBut.refl wr).drewN _
                replace hwq := Lib.hid hwq
                have bq : Below wr.heap.size wr wq := kq.below (Nat.le_refl _) (fun _ e => e.elim)
                have howq := kq.own how.out (fun _ _ e => e)
                have hBq : Below G w13 wq := hB.out.trans (bq.mono swr.out)
                have sq : G ≤ wq.heap.size := Nat.le_trans swr.out kq.size
                have cq := (kq.blk krr.out (fun e => e)).cell
                have fxq : Fs wq (some ⟨b, off, none⟩) xf := fx.out.below (by rw [hG]; exact hBq)
                obtain ⟨b', off', e', _, hcq⟩ := fxq.at_ (i := j + 1) hkn.out
                cases e'
                have h0q := hcq (j + 1) hkn.out
                rw [hf.out] at h0q
                obtain ⟨xk, xva, xse, xli, xki, xv⟩ := f
                simp only at h0q
                have how6 := howq.alloc (.cells #[.string xk, .int .u32 (xva : Int), .int .u64 (xse : Int), .int .u64 (xli : Int), .int .u8 (xki : Int), .string xv] 44)
                have rd6 : Rd (wq.alloc (.cells #[.string xk, .int .u32 (xva : Int), .int .u64 (xse : Int), .int .u64 (xli : Int), .int .u8 (xki : Int), .string xv] 44)) 6 (some ⟨wq.heap.size, 0, none⟩) 1 (ftC [⟨xk, xva, xse, xli, xki, xv⟩]) := Rd.ft wq 44 ⟨xk, xva, xse, xli, xki, xv⟩
                have sz6 : G ≤ (wq.alloc (.cells #[.string xk, .int .u32 (xva : Int), .int .u64 (xse : Int), .int .u64 (xli : Int), .int .u8 (xki : Int), .string xv] 44)).heap.size := by simp; omega
                have hB6 := hBq.alloc sq (.cells #[.string xk, .int .u32 (xva : Int), .int .u64 (xse : Int), .int .u64 (xli : Int), .int .u8 (xki : Int), .string xv] 44)
                replace hB6 := Lib.hid hB6
                replace sz6 := Lib.hid sz6
                replace rd6 := Lib.hid rd6
                replace how6 := Lib.hid how6
                clear howq hBq cr bq kq h0 hcq fxq sq
                go_wp2_with (first | (at_builtin; refine wpList_app _ rfl (.tmp 100) (.tmp 106) rfl Try.underlying26 ftInfo rfl (by omega) how6.out rfl _ 1 1 rd6.out rfl one6.out (by unfold maxLen; omega) (by omega) sz6.out ?_; intro v2 w7 hown2 hgrow2 hlies2) | fail)
                have hm2 : Hid ((dd (xf.take ((j + 1) + 1))).length = m' + 1) := Lib.hid (by rw [htk.out, hdds.out, List.length_append, hm'.out]; rfl)
                have ho7 : w7.ownsRow G 44 6 v2 (m' + 1) (ftC (dd (xf.take ((j + 1) + 1)))) := by rw [htk.out, hdds.out, ftC_append]; exact hown2
                have hB7 := below_app hB6.out how6.out (by omega) (by have := sz6.out; omega) hgrow2
                replace ho7 := Lib.hid ho7
                go_roundw
                case rel => exact ⟨(j + 1) + 1, m' + 1, by omega, by go_num, hm2, by omega, ho7.out, hB7⟩
                case measure => simp [intOf] <;> omega
          · obtain rfl : k = n1 := by omega
            have d1 : decide ((k : Int) < (k : Int)) = false := decide_eq_false (by omega)
            have hdk : decide (k < k) = false := by simp
            obtain ⟨A6, c6, rfl⟩ := own_slice how
            have htk : xf.take k = xf := List.take_of_length_le (by have := hn1.out; omega)
            rw [htk] at how hm'
            have f6 : Fs wr A6 (dd xf) := by unfold Fs; rw [hm'.out]; exact Rd.of_own how
            have fxr : Fs wr xA xf := fx.out.below (by rw [hG]; exact hB)
            have bwr : Below Bf w wr := bw6.trans (hB.mono (by omega))
            have swr2 : Bf + 1 ≤ wr.heap.size := by omega
            obtain ⟨w14, hw14⟩ : ∃ w14, wr.alloc (.cells #[.slice xA k xc] 26) = w14 := ⟨_, rfl⟩
            have b14 : Below wr.heap.size wr w14 := by rw [← hw14]; exact (Below.refl _ _).alloc (Nat.le_refl _) _
            have k14 : Blk w14 wr.heap.size 26 #[.slice xA k xc] := by rw [← hw14]; exact Blk.new wr _ _
            have po := of_all w14 (some ⟨wr.heap.size, 0, none⟩) 1 1 m' [⟨xA, xf, xc⟩] rfl (by omega) ⟨k14.rd rfl (fun j u hu => by simpa [slV, hn1.out] using hu), fun x hx => by
              obtain rfl := List.mem_singleton.1 hx
              exact fxr.below b14⟩ (dd xf) (fun x hx => by
              obtain rfl := List.mem_singleton.1 hx
              exact s1.out) sdd.out (fun f => by rw [dd_mem]; simp) (by simp [total, hn1.out]; omega) hm'.out
            replace po := Lib.hid po
            replace hw14 := Lib.hid hw14
            have krw := krr.below b14 krr.lt
            have crr := krr.cell
            clear hB how
            go_wp2_with (first | rw [hw14.out] | fail)
            refine po.out.mono ?_
            rintro _ w15 ⟨A15, c15, rfl, f15, b15⟩
            have B15 : Below wr.heap.size wr w15 := b14.trans (b15.mono b14.size)
            have ps := sameFt_yes w15 A15 A6 m' c15 c6 (dd xf) hm'.out (by omega) f15 (f6.below B15)
            replace ps := Lib.hid ps
            clear po crr
            go_wp2_with fail
            refine ps.out.mono ?_
            rintro _ w16 ⟨rfl, b16⟩
            have B16 : Below wr.heap.size wr w16 := B15.trans (b16.mono B15.size)
            have cr16 := (krr.below B16 krr.lt).cell
            obtain ⟨w17, hw17⟩ : ∃ w17, w16.alloc (.cells #[.slice xA k xc, .slice xA k xc] 26) = w17 := ⟨_, rfl⟩
            have b17 : Below w16.heap.size w16 w17 := by rw [← hw17]; exact (Below.refl _ _).alloc (Nat.le_refl _) _
            have k17 : Blk w17 w16.heap.size 26 #[.slice xA k xc, .slice xA k xc] := by rw [← hw17]; exact Blk.new w16 _ _
            have B17 : Below wr.heap.size wr w17 := B16.trans (b17.mono B16.size)
            have po := of_all w17 (some ⟨w16.heap.size, 0, none⟩) 2 2 m' [⟨xA, xf, xc⟩, ⟨xA, xf, xc⟩] rfl (by omega) ⟨k17.rd rfl (fun j u hu => by simpa [slV, hn1.out] using hu), fun x hx => by
              simp only [List.mem_cons, List.not_mem_nil, or_false, or_self] at hx
              subst hx
              exact fxr.below B17⟩ (dd xf) (fun x hx => by
              simp only [List.mem_cons, List.not_mem_nil, or_false, or_self] at hx
              subst hx
              exact s1.out) sdd.out (fun f => by rw [dd_mem]; simp) (by simp [total, hn1.out]; omega) hm'.out
            replace po := Lib.hid po
            replace hw17 := Lib.hid hw17
            clear ps
            go_wp2_with (first | rw [hw17.out] | fail)
            refine po.out.mono ?_
            rintro _ w18 ⟨A18, c18, rfl, f18, b18⟩
            have B18 : Below wr.heap.size wr w18 := B17.trans (b18.mono B17.size)
            have ps := sameFt_yes w18 A18 A6 m' c18 c6 (dd xf) hm'.out (by omega) f18 (f6.below B18)
            replace ps := Lib.hid ps
            clear po cr16
            go_wp2_with fail
            refine ps.out.mono ?_
            rintro _ w19 ⟨rfl, b19⟩
            have B19 : Below wr.heap.size wr w19 := B18.trans (b19.mono B18.size)
            go_wp2_with fail
            refine (lives_any _).mono ?_
            rintro _ w20 ⟨rfl, b20⟩
            have bf := bwr.trans ((B19.trans (b20.mono B19.size)).mono (by omega))
            go_wp2
            go_ret
            exact ⟨rfl, bf⟩

/-! ### from the walk to the statement (by tail.py) -/
set_option maxRecDepth 100000 in
theorem lifted (os : Os) (started : os.Started) (H : Type) (enc : TypeId × Value → H) :
    ReturnsInHanded {} Try.checked os 5 .any (Rows.joinsTwoSpec.pre6 enc Try.prog Try.f5 Rows.joinsTwoRow.domain false) (Rows.joinsTwoSpec.post enc Try.prog Try.f5 false true false false) := by
  refine lifted_of (C := Try.checked) (tb := 4) (n := 1) (by kernel_rfl) started (by kernel_rfl) Try.func5 (by kernel_rfl) (by kernel_rfl) rfl (by kernel_rfl) Try.underlying4 (by kernel_rfl)
    (fun ds hd => by match ds, hd with | [d1], _ => exact ⟨rfl, rfl, rfl⟩)
    (ChangeSpec.witness6 (enc := enc) (C := Try.checked) false ⟨#[], #[.agg #[.slice none 0 0, .slice none 0 0, .slice none 0 0]], []⟩ 8 (by kernel_rfl) (by kernel_rfl) (by kernel_rfl) (by kernel_rfl)) ?_
  intro W base args ds before hval hA hsz
  rw [Try.params5] at hA hval hsz
  obtain ⟨v0, vs0, d0, ds0, p0, q0, rfl, rfl, rfl, h0, r0⟩ := trodAll_cons hA
  obtain ⟨rfl, rfl, rfl⟩ := trodAll_nil r0
  obtain ⟨x0, y0, z0, rfl, fx0, fy0, fz0, lx0, ly0, lz0⟩ := open_ftrows3 (hval 0 _ _ rfl rfl) h0
  exact walk W x0 y0 z0 fx0 fy0 fz0 lx0 ly0 lz0

theorem over : Rows.joinsTwoRow.holds Try.pinned (OpenSpec.ofChange Rows.joinsTwoSpec) :=
  OpenClaim.holds_of_wide 5 Try.f5 rfl rfl rfl rfl rfl rfl rfl ⟨rfl, rfl, rfl, rfl, rfl⟩ rfl rfl rfl rfl rfl (by kernel_rfl) Try.func5 (by kernel_rfl)
    (of_decide_eq_true (by kernel_rfl)) (by unfold Func.isWrapper; first | (rw [if_pos (by decide +kernel)]; kernel_rfl) | (rw [if_neg (by decide +kernel)]; exact ⟨rfl, rfl⟩))
    (fun os started H enc _ => lifted os started H enc)

theorem proved : Rows.JoinsTwoSaid := over
end Go.Proofs.Ytnlmchbigpjamaa.lawJoinsTwo
