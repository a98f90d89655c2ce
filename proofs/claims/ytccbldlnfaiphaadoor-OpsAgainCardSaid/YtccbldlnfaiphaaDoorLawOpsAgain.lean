/- Of what bytes are made of they are put again; it may be: for every input, no condition but what the listed variable holds. -/
import Derived.Test.YtccbldlnfaiphaaDoorOpH
import Derived.Test.YtccbldlnfaiphaaDoorOpArg
import Derived.Test.YtccbldlnfaiphaaDoorSameB
import Derived.Test.YtccbldlnfaiphaaDoorLiftD
import Derived.Test.YtccbldlnfaiphaaDoorCards
import Derived.Test.YtccbldlnfaiphaaDoorTie
import Derived.LaidMore
import Derived.SevenTiedAt
import Derived.Lib.LaidTab
set_option linter.unusedSimpArgs false
set_option linter.unusedVariables false
namespace Go.Proofs.YtccbldlnfaiphaaDoor.lawOpsAgain
open Go Go.RowKit Herb Herb.Cm Go.ChangeShapes Go.WideShapes Go.ChangeAt

theorem many_le (cs : List Ch) : cs.length ≤ (cs.flatMap encC).length := by
  induction cs with
  | nil => simp
  | cons c cs ih =>
    rw [List.flatMap_cons, List.length_append, List.length_cons]
    have : 0 < (encC c).length := by
      unfold encC encS
      have := enc_pos c.k.size
      simp only [List.length_append]
      omega
    omega

set_option maxRecDepth 100000 in
set_option maxHeartbeats 6400000 in
theorem walk (w : World) (hS : Sets w) (A : Option Addr) (c : Nat) (l : List UInt8) (hl : l.length ≤ 140737488355328) (hb : Bs w A l) (hlc : l.length ≤ c) (hc : c ≤ 140737488355328) :
    Calls Tryd.prog 6 #[.slice A l.length c] w fun e w' => e = .returned (.bool true) ∧ Below w.heap.size w w' := by
  obtain ⟨n, hn⟩ : ∃ n, l.length = n := ⟨_, rfl⟩
  rw [hn] at hl hlc ⊢
  by_cases hbig : 5000 < n
  · have d1 : decide ((5000 : Int) < (n : Int)) = true := decide_eq_true (by omega)
    clear hn
    go_enter Tryd.func6, Tryd.ntmps6
    go_wp2_with fail
    refine (lives_any w hS).mono ?_
    rintro _ w1 ⟨rfl, b1⟩
    go_wp2
    go_ret
    exact ⟨rfl, b1⟩
  have d1 : decide ((5000 : Int) < (n : Int)) = false := decide_eq_false (by omega)
  have cg := opGet_any w hS A n c l hn (by omega) hlc hb
  rcases hp : parse l with _ | ⟨s, ⟨kind, br, ot, pl, cs⟩⟩
  · rw [hp] at cg
    have hn' := Lib.hid hn
    have hp' := Lib.hid hp
    clear hn hp
    replace hS := Lib.hid hS
    go_enter Tryd.func6, Tryd.ntmps6
    go_wp2_with fail
    refine cg.mono ?_
    clear cg
    rintro e w1 ⟨b1, rfl⟩
    have b2 := b1.alloc b1.size (.cells #[.int .u8 0, .string ⟨#[]⟩, .string ⟨#[]⟩, .int .u64 0, .slice none 0 0] 26)
    go_wp2_with fail
    refine (no_yes _ (hS.out.below b2) A n c l hn'.out (by omega) hlc (hb.below b2) hp'.out).mono ?_
    rintro _ w3 ⟨rfl, b3⟩
    have hB3 := b2.trans (b3.mono b2.size)
    go_wp2_with fail
    refine (lives_any w3 (hS.out.below hB3)).mono ?_
    rintro _ w4 ⟨rfl, b4⟩
    go_wp2
    go_ret
    exact ⟨rfl, hB3.trans (b4.mono hB3.size)⟩
  obtain ⟨p1, p2, p3, p4, p5, p6, p7⟩ := parse_some hp
  rw [hp] at cg
  obtain ⟨q1, q2, q3, q4, q5, q6, q7⟩ := chk_parts p2
  simp only at q1 q2 q3 q4 q5 q6 q7
  have hbr := (name_size q2).2
  have hot : ot.size ≤ 12 := by
    by_cases h : two kind = true
    · rw [if_pos h] at q3; exact (name_size q3).2
    · rw [if_neg h] at q3; omega
  have hcl : cs.length ≤ 5000 := by
    have h1 := many_le cs
    have h2 : l.length = (encOp s ⟨kind, br, ot, pl, cs⟩).length := by rw [← p1]
    unfold encOp at h2
    rw [List.length_append] at h2
    simp only at h2
    omega
  have hE : putE s ⟨kind, br, ot, pl, cs⟩ = l := by unfold putE; rw [if_pos ⟨p2, p3, by rw [← p1]; exact p7⟩, ← p1]
  have hR : putR s ⟨kind, br, ot, pl, cs⟩ = 0 := by
    unfold putR
    rw [if_neg (by rw [p2]; simp [p3]), if_neg (by rw [← p1]; omega)]
  have hfit := p5.2.2
  have hpl := p5.2.1
  simp only at hfit hpl
  have ds : decide ((0 : Int) < (s : Int)) = true := decide_eq_true (by omega)
  have ds2 : decide (0 < s) = true := decide_eq_true (by omega)
  clear q1 q2 q3 q4 q5 q6 q7 p1 p6 p7 p5 hp
  replace hn := Lib.hid hn
  replace hS := Lib.hid hS
  replace p2 := Lib.hid p2
  replace p3 := Lib.hid p3
  replace hE := Lib.hid hE
  replace hR := Lib.hid hR
  go_enter Tryd.func6, Tryd.ntmps6
  go_wp2_with fail
  refine cg.mono ?_
  clear cg
  rintro e w1 ⟨b1, A1, k, cap, rfl, hk, own1⟩
  simp only at hk
  have hcs1 : Cs w1 A1 cs := by unfold Cs; rw [hk]; exact Rd.of_own own1
  have hk2 : k ≤ 5000 := by rw [← hk]; exact hcl
  replace hk := Lib.hid hk
  clear own1
  obtain ⟨W2, hW2⟩ : ∃ W, w1.alloc (.cells #[.int .u8 (kind : Int), .string br, .string ot, .int .u64 (pl : Int), .slice A1 k k] 26) = W := ⟨_, rfl⟩
  have b2 : Below w1.heap.size w1 W2 := by rw [← hW2]; exact (Below.refl _ _).alloc (Nat.le_refl _) _
  have k2 : Blk W2 w1.heap.size 26 #[.int .u8 (kind : Int), .string br, .string ot, .int .u64 (pl : Int), .slice A1 k k] := by rw [← hW2]; exact Blk.new w1 _ _
  have hB2 := b1.trans (b2.mono b1.size)
  have hcs2 := hcs1.below b2
  have c2 := k2.cell
  have pp := opPut_any W2 (hS.out.below hB2) s p4 kind br ot pl A1 k k cs hk.out (by omega) hcs2 (by omega) (by omega) hpl hfit
  rw [hE.out, hR.out] at pp
  replace hW2 := Lib.hid hW2
  go_wp2_with (first | rw [hW2.out] | fail)
  refine pp.mono ?_
  clear pp c2
  rintro _ w3 ⟨A3, n3, rfl, hn3, hs3, _, b3⟩
  obtain rfl : n = n3 := by rw [← hn3]; exact hn.out.symm
  have hB3 := hB2.trans (b3.mono hB2.size)
  have k3 := k2.below b3 k2.lt
  have hcs3 := hcs2.below b3
  have c3 := k3.cell
  have cc := check_any w3 (hS.out.below hB3) kind br ot pl A1 k k cs hk.out (by omega) hcs3 (by omega) (by omega)
  rw [p2.out] at cc
  clear hn3
  go_wp2_with fail
  refine cc.mono ?_
  clear cc c3
  rintro _ w4 ⟨rfl, b4⟩
  have hB4 := hB3.trans (b4.mono hB3.size)
  go_wp2_with fail
  refine (sameBytes_yes w4 A A3 n c n l hn.out (by omega) (hb.below hB4) (hs3.below b4)).mono ?_
  rintro _ w5 ⟨rfl, b5⟩
  have hB5 := hB4.trans (b5.mono hB4.size)
  go_wp2_with fail
  refine (lives_any w5 (hS.out.below hB5)).mono ?_
  rintro _ w6 ⟨rfl, b6⟩
  go_wp2
  go_ret
  exact ⟨rfl, hB5.trans (b6.mono hB5.size)⟩

/-! ### from the walk to the statement (by tail.py) -/
set_option maxRecDepth 100000 in
theorem door_met (os : Os) (args : Array Value) : laidMetH Tryd.prog Rows.opsAgainRow.laid ((World.doorLaid Tryd.prog 29 os).forCall (fun _ _ => 0) ⟨#[], args, []⟩).memory :=
  laidMetH_of_parts3 (fuel := 8) (laidMet_of_run' 8 (by kernel_rfl) (by kernel_rfl)) (by kernel_rfl) (by kernel_rfl)
set_option maxRecDepth 100000 in
theorem lifted (os : Os) (started : os.Started) (H : Type) (enc : TypeId × Value → H) :
    ReturnsInHanded {} Tryd.checked os 6 .any (fun w args => (Rows.opsAgainSpec.pre enc Tryd.prog Tryd.f6 [] false w args ∧ laidMetH Tryd.prog Rows.opsAgainRow.laid w) ∧ sizedMet enc Tryd.prog Tryd.f6 (OpenSpec.ofChange Rows.opsAgainSpec) false w args) (Rows.opsAgainSpec.post enc Tryd.prog Tryd.f6 false true false false) := by
  refine lifted_of_and (C := Tryd.checked) (tb := 4) (n := 1) (X := fun w _ => laidMetH Tryd.prog Rows.opsAgainRow.laid w) (fun _ _ _ hh h => h.of_heap hh) (by kernel_rfl) started (by kernel_rfl) Tryd.func6 (by kernel_rfl) (by kernel_rfl) rfl (by kernel_rfl) Tryd.underlying4 (by kernel_rfl)
    (fun ds hd => by match ds, hd with | [d1], _ => exact ⟨rfl, rfl, rfl⟩)
    (ChangeSpec.witness_shaped (enc := enc) (C := Tryd.checked) (os := os) (X := fun w _ => laidMetH Tryd.prog Rows.opsAgainRow.laid w) false (World.doorLaid Tryd.prog 29 os) #[.slice none 0 0] 8 rfl (World.shaped_of_RefB (by kernel_rfl) (by kernel_rfl)) (by kernel_rfl) (by kernel_rfl) (by kernel_rfl) (door_met os _)) ?_
  intro W base args ds before hval hA hsz hX
  rw [Tryd.params6] at hA hval hsz
  obtain ⟨v0, vs0, d0, ds0, p0, q0, rfl, rfl, rfl, h0, r0⟩ := trodAll_cons hA
  obtain ⟨rfl, rfl, rfl⟩ := trodAll_nil r0
  obtain ⟨A0, c0, l0, rfl, hb0, hlc0, _, hcap0⟩ := open_bytes Tryd.underlying30 Tryd.underlying5 (by kernel_rfl) (by kernel_rfl) (hval 0 _ _ rfl rfl) h0
  have hc0 := hcap0 hsz 0 rfl rfl
  exact walk W (sets_of hX) A0 c0 l0 (by have := reachBytes_lt; omega) hb0 hlc0 (by have := reachBytes_lt; omega)

theorem over : Rows.opsAgainRow.holds Tryd.pinned (OpenSpec.ofChange Rows.opsAgainSpec) :=
  OpenClaim.holds_of_wide 6 Tryd.f6 rfl rfl rfl rfl rfl rfl rfl ⟨rfl, rfl, rfl, rfl, rfl⟩ rfl rfl rfl rfl rfl (by kernel_rfl) Tryd.func6 (by kernel_rfl)
    (of_decide_eq_true (by kernel_rfl)) (by unfold Func.isWrapper; first | (rw [if_pos (by decide +kernel)]; kernel_rfl) | (rw [if_neg (by decide +kernel)]; exact ⟨rfl, rfl⟩))
    (fun os started H enc _ => lifted os started H enc)

theorem proved : Rows.OpsAgainCardSaid :=
  Claim7.holds_tied_plain_at .later [] [.data] true (true, "46d5cacd4782c602f2b9df7395970fea9243359bc8c670c610b31bfbc6d9cf21") true
    over (fun _ h => by cases h) (by kernel_rfl) (fun _ h => by cases h) opsAgain_row_tie rfl ⟨rfl, rfl⟩ (by kernel_rfl) rfl
    (fun f fn hf hfn => by
      obtain rfl : f = 6 := Option.some.inj ((show Tryd.prog.funcNamed "herbarium/herbariumlaw07.OpsAgain" = some 6 by kernel_rfl).symm.trans hf) |>.symm
      obtain rfl : fn = Tryd.f6 := (Option.some.inj (Tryd.func6.symm.trans hfn)).symm
      exact ⟨by kernel_rfl, fun j t ht => by
        have hall : (Tryd.f6.params.toList.all fun u => !Tryd.prog.wantsStandIn u) = true := by kernel_rfl
        have hm : t ∈ Tryd.f6.params.toList := Array.mem_toList_iff.2 (Array.mem_of_getElem? ht)
        exact (show Tryd.prog.wantsStandIn t = false by simpa using List.all_eq_true.1 hall t hm)⟩)
    (by kernel_rfl)
end Go.Proofs.YtccbldlnfaiphaaDoor.lawOpsAgain
