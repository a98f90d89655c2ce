/- A batch may be just if each of its changes alone may, there is one at least, and 32 at most; a merge of any changes that may be may be, and of none: for every input, no condition but what the listed variable holds. -/
import Derived.Test.YtccbldlnfaiphaaDoorOpG
import Derived.Test.YtccbldlnfaiphaaDoorOpArg
import Derived.Test.YtccbldlnfaiphaaDoorLiftD
import Derived.Test.YtccbldlnfaiphaaDoorCards
import Derived.Test.YtccbldlnfaiphaaDoorTie
import Derived.LaidMore
import Derived.SevenTiedAt
import Derived.Lib.LaidTab
set_option linter.unusedSimpArgs false
set_option linter.unusedVariables false
namespace Go.Proofs.YtccbldlnfaiphaaDoor.lawOpsChanges
open Go Go.RowKit Herb Herb.Cm Go.ChangeShapes Go.WideShapes Go.ChangeAt

theorem nameA : nameB ⟨#[97]⟩ = true := by decide +kernel
theorem nameBb : nameB ⟨#[98]⟩ = true := by decide +kernel
theorem chk_one (x : Ch) : chk ⟨0, ⟨#[97]⟩, ⟨#[]⟩, 0, [x]⟩ = chB x := by
  unfold chk
  simp only [nameA, two, many, trim]
  rw [show (ByteArray.mk #[]).size = 0 from rfl]
  simp
theorem chk_batch (cs : List Ch) : chk ⟨0, ⟨#[97]⟩, ⟨#[]⟩, 0, cs⟩ = (decide (1 ≤ cs.length) && decide (cs.length ≤ 32) && cs.all chB) := by
  unfold chk
  simp only [nameA, two, many, trim]
  rw [show (ByteArray.mk #[]).size = 0 from rfl]
  simp
theorem chk_merge (cs : List Ch) : chk ⟨3, ⟨#[97]⟩, ⟨#[98]⟩, 0, cs⟩ = cs.all chB := by
  unfold chk
  simp only [nameA, nameBb, two, many, trim]
  simp
/-- One element of a list of changes, cut out. -/
theorem run_cut_one {P : Program} {t e : TypeId} (ht : P.underlying t = some (.slice e)) (hs : (P.info? e).map (·.size) = some 4) (b off n c k : Nat) (hk : k < n) (hn : n ≤ c) (W : World) :
    (Instr.slice t (.slice (some ⟨b, off, none⟩) n c) (some (.int .i64 (k : Int))) (some (.int .i64 ((k : Int) + 1))) none).run P W = .ok (.slice (some ⟨b, off + k * 4, none⟩) 1 (c - k)) W := by
  obtain ⟨i, hi, hz⟩ : ∃ i, P.info? e = some i ∧ i.size = 4 := by
    cases h : P.info? e with
    | none => simp [h] at hs
    | some i => exact ⟨i, rfl, by simpa [h] using hs⟩
  have hm : k + 1 ≤ c := by omega
  have h1 : max ((k : Int) + 1) 0 = (k : Int) + 1 := by omega
  have h2 : ((k : Int) + 1).toNat = k + 1 := by omega
  have h3 : ¬ c = k := by omega
  have h4 : (k : Int) ≤ (k : Int) + 1 := by omega
  have h5 : (k : Int) + 1 ≤ (c : Int) := by omega
  unfold Instr.slice
  simp [run_underlying ht, Go.sizeOf, typeInfo, hi, hz, Instr.sliceBounds, Instr.sliceBound, asIntOf, h1, h2, h3, h4, h5, hm, Addr.add]
  rw [if_pos (by omega)]
  by_cases hk0 : k * 4 = 0
  · rw [if_pos hk0, hk0]; rfl
  · rw [if_neg hk0]
theorem Cs.one {w : World} {b off : Nat} {cs : List Ch} (h : Cs w (some ⟨b, off, none⟩) cs) {k : Nat} (hk : k < cs.length) : Cs w (some ⟨b, off + k * 4, none⟩) [cs[k]] := by
  have h1 := Rd.cut (k := k) (m := k + 1) (A' := some ⟨b, off + k * 4, none⟩) h (by omega) (by omega) (fun _ => by simp [add_eq])
  have e : k + 1 - k = 1 := by omega
  rw [e] at h1
  have e2 : ((chC cs).drop (k * 4)).take (1 * 4) = chC [cs[k]] := by
    apply List.ext_getElem?
    intro j
    rw [List.getElem?_take, List.getElem?_drop]
    by_cases hj : j < 4
    · rw [if_pos (by omega), chC_get hk hj]
      simp [chC]
    · rw [if_neg (by omega), List.getElem?_eq_none (by rw [chC_length]; simp; omega)]
  rw [e2] at h1
  exact h1

set_option maxRecDepth 100000 in
set_option maxHeartbeats 6400000 in
theorem walk (w : World) (hS : Sets w) (A : Option Addr) (c : Nat) (cs : List Ch) (hb : Cs w A cs) (hnc : cs.length ≤ c) :
    Calls Tryd.prog 8 #[.slice A cs.length c] w fun e w' => e = .returned (.bool true) ∧ Below w.heap.size w w' := by
  obtain ⟨n, hn⟩ : ∃ n, cs.length = n := ⟨_, rfl⟩
  rw [hn] at hnc ⊢
  by_cases hbig : 2000 < n
  · have dd : decide ((2000 : Int) < (n : Int)) = true := decide_eq_true (by omega)
    go_enter Tryd.func8, Tryd.ntmps8
    go_wp2_with fail
    refine (lives_any w hS).mono ?_
    rintro _ w1 ⟨rfl, b1⟩
    go_wp2
    go_ret
    exact ⟨rfl, b1⟩
  have dd : decide ((2000 : Int) < (n : Int)) = false := decide_eq_false (by omega)
  have hgd : Tryd.prog.eqGuardType Tryd.prog.depth 4 = false := by kernel_rfl
  replace hS := Lib.hid hS
  replace hn := Lib.hid hn
  go_enter Tryd.func8, Tryd.ntmps8
  go_wp2_with fail
  go_loopw [3, 4] (fun v3 v4 wr => ∃ k : Nat, v4 = .int .i64 (k : Int) ∧ k ≤ n ∧ v3 = .bool ((cs.take k).all chB) ∧ Below w.heap.size w wr) (fun _ v4 _ => n - (intOf v4).toNat)
  case atStart => exact ⟨0, rfl, by omega, rfl, Below.refl _ _⟩
  case round =>
    obtain ⟨k, rfl, hk, rfl, hB⟩ := hrel
    by_cases hlt : k < n
    case pos =>
      have hkl : k < cs.length := by rw [hn.out]; exact hlt
      obtain ⟨b, off, rfl, hblt, hc⟩ := (hb.below hB).at_ hkl
      have hone := Cs.one (hb.below hB) hkl
      obtain ⟨e0, e1, e2, e3⟩ := hc k hkl
      obtain ⟨x, hx⟩ : ∃ x, cs[k] = x := ⟨_, rfl⟩
      have htk : (cs.take (k + 1)).all chB = ((cs.take k).all chB && chB x) := by rw [List.take_succ_eq_append_getElem hkl, List.all_append, hx]; simp
      rw [hx] at e0 e1 e2 e3 hone
      obtain ⟨xk, xva, xki, xv⟩ := x
      simp only at e0 e1 e2 e3
      have kcut := run_cut_one (P := Tryd.prog) Tryd.underlying24 chSz b off n c k hlt (by omega)
      obtain ⟨al, hal⟩ : ∃ al, (cs.take k).all chB = al := ⟨_, rfl⟩
      rw [hal] at htk ⊢
      obtain ⟨wa, hwa⟩ : ∃ wa, wr.alloc (.cells #[.string xk, .int .u32 (xva : Int), .int .u8 (xki : Int), .string xv] 51) = wa := ⟨_, rfl⟩
      have kx : Blk wa wr.heap.size 51 #[.string xk, .int .u32 (xva : Int), .int .u8 (xki : Int), .string xv] := by rw [← hwa]; exact Blk.new wr _ _
      have ba : Below wr.heap.size wr wa := by rw [← hwa]; exact (Below.refl _ _).alloc (Nat.le_refl _) _
      have hBa := hB.trans (ba.mono hB.size)
      have cc := check_any wa (hS.out.below hBa) 0 ⟨#[97]⟩ ⟨#[]⟩ 0 (some ⟨b, off + k * 4, none⟩) 1 (c - k) [⟨xk, xva, xki, xv⟩] rfl (by omega) (hone.below ba) (by decide) (by decide)
      rw [chk_one] at cc
      obtain ⟨M, hM⟩ : ∃ M, chB ⟨xk, xva, xki, xv⟩ = M := ⟨_, rfl⟩
      rw [hM] at cc htk
      unfold chB most at hM
      simp only at hM
      obtain ⟨p, hp⟩ : ∃ p, xk.size = p := ⟨_, rfl⟩
      obtain ⟨m, hm⟩ : ∃ m, xv.size = m := ⟨_, rfl⟩
      have vn := ba_nil xv m hm
      rw [hp, hm] at hM
      replace vn := Lib.hid vn
      replace cc := Lib.hid cc
      replace htk := Lib.hid htk
      replace hal := Lib.hid hal
      replace hwa := Lib.hid hwa
      replace hc := Lib.hid hc
      clear hone hx
      by_cases h_a : 1 ≤ p
      · have d1 : decide ((1 : Int) ≤ (p : Int)) = true := decide_eq_true (by omega)
        by_cases h_b : p ≤ 32
        · have d2 : decide ((p : Int) ≤ 32) = true := decide_eq_true (by omega)
          by_cases h_k0 : xki = 0
          · have f0 : ((xki : Int) == 0) = true := by simp; omega
            by_cases h_v : m ≤ 256
            · have d3 : decide ((m : Int) ≤ 256) = true := decide_eq_true (by omega)
              have f1 : ((xki : Int) == 1) = false := by simp; omega
              obtain rfl : M = true := by rw [← hM]; simp only [Bool.and_eq_true, decide_eq_true_eq]; split <;> omega
              replace h_k0 := Lib.hid h_k0
              replace hM := Lib.hid hM
              go_wp2_with (first | rw [hwa.out] | fail)
              refine cc.out.mono ?_
              rintro _ wb ⟨rfl, bb⟩
              have cx := (kx.below bb kx.lt).cell
              have hBb := hBa.trans (bb.mono hBa.size)
              cases al
              all_goals
                go_wp2
                go_roundw
                case rel => exact ⟨k + 1, by go_num, by omega, by rw [htk.out]; rfl, hBb⟩
                case measure => simp [intOf]; omega
            · have d3 : decide ((m : Int) ≤ 256) = false := decide_eq_false (by omega)
              have f1 : ((xki : Int) == 1) = false := by simp; omega
              obtain rfl : M = false := by rw [← hM]; simp only [Bool.and_eq_false_iff, decide_eq_false_iff_not]; split <;> omega
              replace h_k0 := Lib.hid h_k0
              replace hM := Lib.hid hM
              go_wp2_with (first | rw [hwa.out] | fail)
              refine cc.out.mono ?_
              rintro _ wb ⟨rfl, bb⟩
              have cx := (kx.below bb kx.lt).cell
              have hBb := hBa.trans (bb.mono hBa.size)
              cases al
              all_goals
                go_wp2
                go_roundw
                case rel => exact ⟨k + 1, by go_num, by omega, by rw [htk.out]; rfl, hBb⟩
                case measure => simp [intOf]; omega
          · have f0 : ((xki : Int) == 0) = false := by simp; omega
            by_cases h_k1 : xki = 1
            · have f1 : ((xki : Int) == 1) = true := by simp; omega
              by_cases h_m0 : m = 0
              · have e4 : xv.toList.isEmpty = true := by rw [vn.out]; simpa using h_m0
                obtain rfl : M = true := by rw [← hM]; simp only [Bool.and_eq_true, decide_eq_true_eq]; split <;> omega
                replace h_k1 := Lib.hid h_k1
                replace h_m0 := Lib.hid h_m0
                replace hM := Lib.hid hM
                go_wp2_with (first | rw [hwa.out] | fail)
                refine cc.out.mono ?_
                rintro _ wb ⟨rfl, bb⟩
                have cx := (kx.below bb kx.lt).cell
                have hBb := hBa.trans (bb.mono hBa.size)
                cases al
                all_goals
                  go_wp2
                  go_roundw
                  case rel => exact ⟨k + 1, by go_num, by omega, by rw [htk.out]; rfl, hBb⟩
                  case measure => simp [intOf]; omega
              · have e4 : xv.toList.isEmpty = false := by rw [vn.out]; simpa using h_m0
                obtain rfl : M = false := by rw [← hM]; simp only [Bool.and_eq_false_iff, decide_eq_false_iff_not]; split <;> omega
                replace h_k1 := Lib.hid h_k1
                replace hM := Lib.hid hM
                go_wp2_with (first | rw [hwa.out] | fail)
                refine cc.out.mono ?_
                rintro _ wb ⟨rfl, bb⟩
                have cx := (kx.below bb kx.lt).cell
                have hBb := hBa.trans (bb.mono hBa.size)
                cases al
                all_goals
                  go_wp2
                  go_roundw
                  case rel => exact ⟨k + 1, by go_num, by omega, by rw [htk.out]; rfl, hBb⟩
                  case measure => simp [intOf]; omega
            · have f1 : ((xki : Int) == 1) = false := by simp; omega
              obtain rfl : M = false := by rw [← hM]; simp only [Bool.and_eq_false_iff, decide_eq_false_iff_not]; split <;> omega
              replace hM := Lib.hid hM
              go_wp2_with (first | rw [hwa.out] | fail)
              refine cc.out.mono ?_
              rintro _ wb ⟨rfl, bb⟩
              have cx := (kx.below bb kx.lt).cell
              have hBb := hBa.trans (bb.mono hBa.size)
              cases al
              all_goals
                go_wp2
                go_roundw
                case rel => exact ⟨k + 1, by go_num, by omega, by rw [htk.out]; rfl, hBb⟩
                case measure => simp [intOf]; omega
        · have d2 : decide ((p : Int) ≤ 32) = false := decide_eq_false (by omega)
          obtain rfl : M = false := by rw [← hM]; simp only [Bool.and_eq_false_iff, decide_eq_false_iff_not]; split <;> omega
          replace hM := Lib.hid hM
          go_wp2_with (first | rw [hwa.out] | fail)
          refine cc.out.mono ?_
          rintro _ wb ⟨rfl, bb⟩
          have cx := (kx.below bb kx.lt).cell
          have hBb := hBa.trans (bb.mono hBa.size)
          cases al
          all_goals
            go_wp2
            go_roundw
            case rel => exact ⟨k + 1, by go_num, by omega, by rw [htk.out]; rfl, hBb⟩
            case measure => simp [intOf]; omega
      · have d1 : decide ((1 : Int) ≤ (p : Int)) = false := decide_eq_false (by omega)
        obtain rfl : M = false := by rw [← hM]; simp only [Bool.and_eq_false_iff, decide_eq_false_iff_not]; split <;> omega
        replace hM := Lib.hid hM
        go_wp2_with (first | rw [hwa.out] | fail)
        refine cc.out.mono ?_
        rintro _ wb ⟨rfl, bb⟩
        have cx := (kx.below bb kx.lt).cell
        have hBb := hBa.trans (bb.mono hBa.size)
        cases al
        all_goals
          go_wp2
          go_roundw
          case rel => exact ⟨k + 1, by go_num, by omega, by rw [htk.out]; rfl, hBb⟩
          case measure => simp [intOf]; omega
    case neg =>
      have hkn : k = n := by omega
      subst hkn
      rw [List.take_of_length_le (by rw [hn.out]; exact Nat.le_refl _)]
      have cb := fun W (h : Below w.heap.size w W) => check_any W (hS.out.below h) 0 ⟨#[97]⟩ ⟨#[]⟩ 0 A k c cs hn.out (by omega) (hb.below h) (by decide) (by decide)
      have cm := fun W (h : Below w.heap.size w W) => check_any W (hS.out.below h) 3 ⟨#[97]⟩ ⟨#[98]⟩ 0 A k c cs hn.out (by omega) (hb.below h) (by decide) (by decide)
      simp only [chk_batch, chk_merge] at cb cm
      obtain ⟨al, hal⟩ : ∃ al, cs.all chB = al := ⟨_, rfl⟩
      obtain ⟨u1, hu1⟩ : ∃ u, decide (1 ≤ k) = u := ⟨_, rfl⟩
      obtain ⟨u2, hu2⟩ : ∃ u, decide (k ≤ 32) = u := ⟨_, rfl⟩
      have f1 : decide ((1 : Int) ≤ (k : Int)) = u1 := by rw [← hu1]; exact decide_eq_decide.2 (by omega)
      have f2 : decide ((k : Int) ≤ 32) = u2 := by rw [← hu2]; exact decide_eq_decide.2 (by omega)
      rw [hal] at cb cm ⊢
      rw [hn.out, hu1, hu2] at cb
      clear hal hu1 hu2
      replace cb := Lib.hid cb
      replace cm := Lib.hid cm
      cases al <;> cases u1 <;> cases u2
      all_goals
        go_wp2_with fail
        refine (cb.out wr hB).mono ?_
        rintro _ w1 ⟨rfl, b1⟩
        have hB1 := hB.trans (b1.mono hB.size)
        go_wp2_with fail
        refine (cm.out w1 hB1).mono ?_
        rintro _ w2 ⟨rfl, b2⟩
        have hB2 := hB1.trans (b2.mono hB1.size)
        go_wp2_with fail
        refine (lives_any w2 (hS.out.below hB2)).mono ?_
        rintro _ w3 ⟨rfl, b3⟩
        go_wp2
        go_ret
        exact ⟨rfl, hB2.trans (b3.mono hB2.size)⟩

/-! ### from the walk to the statement (by tail.py) -/
set_option maxRecDepth 100000 in
theorem door_met (os : Os) (args : Array Value) : laidMetH Tryd.prog Rows.opsChangesRow.laid ((World.doorLaid Tryd.prog 29 os).forCall (fun _ _ => 0) ⟨#[], args, []⟩).memory :=
  laidMetH_of_parts3 (fuel := 8) (laidMet_of_run' 8 (by kernel_rfl) (by kernel_rfl)) (by kernel_rfl) (by kernel_rfl)
set_option maxRecDepth 100000 in
theorem lifted (os : Os) (started : os.Started) (H : Type) (enc : TypeId × Value → H) :
    ReturnsInHanded {} Tryd.checked os 8 .any (fun w args => (Rows.opsChangesSpec.pre enc Tryd.prog Tryd.f8 [] false w args ∧ laidMetH Tryd.prog Rows.opsChangesRow.laid w) ∧ sizedMet enc Tryd.prog Tryd.f8 (OpenSpec.ofChange Rows.opsChangesSpec) false w args) (Rows.opsChangesSpec.post enc Tryd.prog Tryd.f8 false true false false) := by
  refine lifted_of_and (C := Tryd.checked) (tb := 4) (n := 1) (X := fun w _ => laidMetH Tryd.prog Rows.opsChangesRow.laid w) (fun _ _ _ hh h => h.of_heap hh) (by kernel_rfl) started (by kernel_rfl) Tryd.func8 (by kernel_rfl) (by kernel_rfl) rfl (by kernel_rfl) Tryd.underlying4 (by kernel_rfl)
    (fun ds hd => by match ds, hd with | [d1], _ => exact ⟨rfl, rfl, rfl⟩)
    (ChangeSpec.witness_shaped (enc := enc) (C := Tryd.checked) (os := os) (X := fun w _ => laidMetH Tryd.prog Rows.opsChangesRow.laid w) false (World.doorLaid Tryd.prog 29 os) #[.slice none 0 0] 8 rfl (World.shaped_of_RefB (by kernel_rfl) (by kernel_rfl)) (by kernel_rfl) (by kernel_rfl) (by kernel_rfl) (door_met os _)) ?_
  intro W base args ds before hval hA hsz hX
  rw [Tryd.params8] at hA hval hsz
  obtain ⟨v0, vs0, d0, ds0, p0, q0, rfl, rfl, rfl, h0, r0⟩ := trodAll_cons hA
  obtain ⟨rfl, rfl, rfl⟩ := trodAll_nil r0
  obtain ⟨A0, c0, ls0, rfl, hb0, hlc0, hfit0, hcap0⟩ := open_chs (hval 0 _ _ rfl rfl) h0
  have hc0 := hcap0 hsz 0 rfl rfl
  exact walk W (sets_of hX) A0 c0 ls0 hb0 hlc0

theorem over : Rows.opsChangesRow.holds Tryd.pinned (OpenSpec.ofChange Rows.opsChangesSpec) :=
  OpenClaim.holds_of_wide 8 Tryd.f8 rfl rfl rfl rfl rfl rfl rfl ⟨rfl, rfl, rfl, rfl, rfl⟩ rfl rfl rfl rfl rfl (by kernel_rfl) Tryd.func8 (by kernel_rfl)
    (of_decide_eq_true (by kernel_rfl)) (by unfold Func.isWrapper; first | (rw [if_pos (by decide +kernel)]; kernel_rfl) | (rw [if_neg (by decide +kernel)]; exact ⟨rfl, rfl⟩))
    (fun os started H enc _ => lifted os started H enc)

theorem proved : Rows.OpsChangesCardSaid :=
  Claim7.holds_tied_plain_at .later [] [.data] true (true, "46d5cacd4782c602f2b9df7395970fea9243359bc8c670c610b31bfbc6d9cf21") true
    over (fun _ h => by cases h) (by kernel_rfl) (fun _ h => by cases h) opsChanges_row_tie rfl ⟨rfl, rfl⟩ (by kernel_rfl) rfl
    (fun f fn hf hfn => by
      obtain rfl : f = 8 := Option.some.inj ((show Tryd.prog.funcNamed "herbarium/herbariumlaw07.OpsChanges" = some 8 by kernel_rfl).symm.trans hf) |>.symm
      obtain rfl : fn = Tryd.f8 := (Option.some.inj (Tryd.func8.symm.trans hfn)).symm
      exact ⟨by kernel_rfl, fun j t ht => by
        have hall : (Tryd.f8.params.toList.all fun u => !Tryd.prog.wantsStandIn u) = true := by kernel_rfl
        have hm : t ∈ Tryd.f8.params.toList := Array.mem_toList_iff.2 (Array.mem_of_getElem? ht)
        exact (show Tryd.prog.wantsStandIn t = false by simpa using List.all_eq_true.1 hall t hm)⟩)
    (by kernel_rfl)
end Go.Proofs.YtccbldlnfaiphaaDoor.lawOpsChanges
