/- A record of so many bytes is a part at least, and one for each block that it reaches; fewer than seven noughts ahead of them: for every input, no condition. -/
import Derived.Test.YtnjihcjijicgpaaFrLives
import Derived.Test.YtnjihcjijicgpaaLift
set_option linter.unusedSimpArgs false
set_option linter.unusedVariables false
namespace Go.Proofs.Ytnjihcjijicgpaa.lawFramesLong
open Go Go.RowKit Herb Go.ChangeShapes Go.WideShapes Go.ChangeAt

set_option maxRecDepth 100000 in
set_option maxHeartbeats 3200000 in
theorem walk (w : World) (x : Nat) (hx : x < 4294967296) (A : Option Addr) (c : Nat) (l : List UInt8) (hl : l.length ≤ 140737488355328) (hb : Bs w A l) (hlc : l.length ≤ c) (hc : c ≤ 140737488355328) :
    Calls Try.prog 6 #[.int .u32 (x : Int), .slice A l.length c] w fun e w' => e = .returned (.bool true) ∧ Below w.heap.size w w' := by
  obtain ⟨n, hn⟩ : ∃ n, l.length = n := ⟨_, rfl⟩
  rw [hn] at hl hlc ⊢
  obtain ⟨P, hP⟩ : ∃ P : Nat, (x : Int) % 100001 = (P : Int) := ⟨x % 100001, by omega⟩
  have hP1 : P ≤ 100000 := by omega
  replace hn := Lib.hid hn
  by_cases hbig : 20000 < n
  · have d1 : decide ((20000 : Int) < (n : Int)) = true := decide_eq_true (by omega)
    go_enter Try.func6, Try.ntmps6
    go_wp2_with fail
    refine (lives_any w).mono ?_
    rintro _ w1 ⟨rfl, b1⟩
    go_wp2
    go_ret
    exact ⟨rfl, b1⟩
  · have d1 : decide ((20000 : Int) < (n : Int)) = false := decide_eq_false (by omega)
    have pp := put_any w P (by omega) A n c l hn.out (by omega) hlc hb
    have hlen := Fr.put_len P l
    have hgl := Fr.gap_le P
    obtain ⟨G, hG⟩ : ∃ G, Fr.gap P = G := ⟨_, rfl⟩
    have hput := Fr.put_gap P l
    have hpos := Fr.put_pos P l
    have hlen2 := Fr.put_length_le P l
    rw [hG] at hlen hgl hput hpos
    rw [hn.out] at hlen hlen2
    replace pp := Lib.hid pp
    replace hput := Lib.hid hput
    go_enter Try.func6, Try.ntmps6
    go_wp2_with fail
    simp only [hP]
    refine pp.out.mono ?_
    rintro _ w1 ⟨g, k, cp, rfl, hk, hown, b1⟩
    have hbs := (Bs.of_own hown).2
    rw [hk] at hlen hpos hlen2
    obtain ⟨Q1, hQ1⟩ : ∃ Q1 : Nat, ((P : Int) + (k : Int) - 1) / 256 = (Q1 : Int) ∧ Q1 = (P + k - 1) / 256 := ⟨(P + k - 1) / 256, by omega, rfl⟩
    obtain ⟨Q2, hQ2⟩ : ∃ Q2 : Nat, ((P : Int) + (G : Int)) / 256 = (Q2 : Int) ∧ Q2 = (P + G) / 256 := ⟨(P + G) / 256, by omega, rfl⟩
    have hfin : ((k : Int) == (G : Int) + (n : Int) + 7 * ((Q1 : Int) - (Q2 : Int) + 1)) = true := by
      rw [beq_iff_eq]
      have h1 := hQ1.2
      have h2 := hQ2.2
      rw [← h1, ← h2] at hlen
      have h3 : Q2 ≤ Q1 := by omega
      omega
    have hq1 := hQ1.1
    have hq2 := hQ2.1
    have hqb : Q1 ≤ 1000000 ∧ Q2 ≤ 1000000 := by omega
    have hqb1 := hqb.1
    have hqb2 := hqb.2
    have d5 : decide ((k : Int) < (G : Int) + 7) = false := decide_eq_false (by omega)
    have hGg : Fr.gap P = G := hG
    clear hqb hlen hpos hQ1 hQ2 hG pp hown
    replace hk := Lib.hid hk
    unfold Fr.gap at hGg
    by_cases hgap : 256 - P % 256 < 7
    · rw [if_pos hgap] at hGg
      obtain ⟨R, hR⟩ : ∃ R : Nat, (P : Int) % 256 = (R : Int) := ⟨P % 256, by omega⟩
      have hRG : (256 : Int) - (R : Int) = (G : Int) := by omega
      have d4 : decide ((G : Int) < 7) = true := decide_eq_true (by omega)
      replace hGg := Lib.hid hGg
      replace hfin := Lib.hid hfin
      replace hq1 := Lib.hid hq1
      replace hq2 := Lib.hid hq2
      go_wp2_with fail
      clear hR hRG d4 d5 d1
      go_loop [9] (fun i => ∃ j : Nat, j ≤ G ∧ i = .int .i64 (j : Int)) (fun i => G - (intOf i).toNat)
      case atStart => exact ⟨0, by omega, rfl⟩
      case round =>
        obtain ⟨j, hj, rfl⟩ := hrel
        by_cases hlt : j < G
        · obtain ⟨h0, hjl⟩ := hput.out j hlt
          obtain ⟨b, off, he, _, hc0⟩ := hbs.at_ hjl
          cases he
          have hcj := hc0 j hjl
          have hz : (Fr.put P l)[j] = 0 := by simpa [List.getD, hjl] using h0
          rw [hz, Nat.zero_add] at hcj
          rw [hk.out] at hjl
          clear hc0 hz h0
          go_wp2
          go_round
          case rel => exact ⟨j + 1, by omega, by go_num⟩
          case measure => simp [intOf]; omega
        · obtain rfl : j = G := by omega
          have e1 := hq1.out
          have e2 := hq2.out
          have e3 := hfin.out
          go_wp2_with fail
          refine (lives_any w1).mono ?_
          rintro _ w2 ⟨rfl, b2⟩
          go_wp2
          go_ret
          exact ⟨rfl, b1.trans (b2.mono b1.size)⟩
    · rw [if_neg hgap] at hGg
      subst hGg
      obtain ⟨R, hR⟩ : ∃ R : Nat, (P : Int) % 256 = (R : Int) := ⟨P % 256, by omega⟩
      have d4 : decide ((256 : Int) - (R : Int) < 7) = false := decide_eq_false (by omega)
      have d5' : decide ((k : Int) < 7) = false := decide_eq_false (by have h := of_decide_eq_false d5; omega)
      have hR2 : R ≤ 255 := by omega
      have hq2' : (P : Int) / 256 = (Q2 : Int) := by simpa using hq2
      have hfin' : ((k : Int) == (n : Int) + 7 * ((Q1 : Int) - (Q2 : Int) + 1)) = true := by simpa using hfin
      clear hfin hq2 d5 hput
      replace hfin' := Lib.hid hfin'
      replace hq1 := Lib.hid hq1
      replace hq2' := Lib.hid hq2'
      go_wp2_with fail
      simp only [hR]
      clear d1 d4 d5' hR
      go_loop [9] (fun i => i = .int .i64 0) (fun i => 0)
      case atStart => rfl
      case round =>
        subst hrel
        have e1 := hq1.out
        have e2 := hq2'.out
        have e3 := hfin'.out
        go_wp2_with fail
        refine (lives_any w1).mono ?_
        rintro _ w2 ⟨rfl, b2⟩
        go_wp2
        go_ret
        exact ⟨rfl, b1.trans (b2.mono b1.size)⟩

/-! ### from the walk to the statement (by tail.py) -/
set_option maxRecDepth 100000 in
theorem lifted (os : Os) (started : os.Started) (H : Type) (enc : TypeId × Value → H) :
    ReturnsInHanded {} Try.checked os 6 .any (Rows.framesLongSpec.pre6 enc Try.prog Try.f6 Rows.framesLongRow.domain false) (Rows.framesLongSpec.post enc Try.prog Try.f6 false true false false) := by
  refine lifted_of (C := Try.checked) (tb := 4) (n := 2) (by kernel_rfl) started (by kernel_rfl) Try.func6 (by kernel_rfl) (by kernel_rfl) rfl (by kernel_rfl) Try.underlying4 (by kernel_rfl)
    (fun ds hd => by match ds, hd with | [d1, d2], _ => exact ⟨rfl, rfl, rfl⟩)
    (ChangeSpec.witness6 (enc := enc) (C := Try.checked) false ⟨#[], #[.int .u32 0, .slice none 0 0], []⟩ 8 (by kernel_rfl) (by kernel_rfl) (by kernel_rfl) (by kernel_rfl)) ?_
  intro W base args ds before hval hA hsz
  rw [Try.params6] at hA hval hsz
  obtain ⟨v0, vs0, d0, ds0, p0, q0, rfl, rfl, rfl, h0, r0⟩ := trodAll_cons hA
  obtain ⟨v1, vs1, d1, ds1, p1, q1, rfl, rfl, rfl, h1, r1⟩ := trodAll_cons r0
  obtain ⟨rfl, rfl, rfl⟩ := trodAll_nil r1
  obtain ⟨x0, rfl, hx0⟩ := open_u32 Try.underlying41 (hval 0 _ _ rfl rfl) h0
  obtain ⟨A1, c1, l1, rfl, hb1, hlc1, _, hcap1⟩ := open_bytes Try.underlying22 Try.underlying5 (by kernel_rfl) (by kernel_rfl) (hval 1 _ _ rfl rfl) h1
  have hc1 := hcap1 hsz 1 rfl rfl
  exact walk W x0 hx0 A1 c1 l1 (by have := reachBytes_lt; omega) hb1 hlc1 (by have := reachBytes_lt; omega)

theorem over : Rows.framesLongRow.holds Try.pinned (OpenSpec.ofChange Rows.framesLongSpec) :=
  OpenClaim.holds_of_wide 6 Try.f6 rfl rfl rfl rfl rfl rfl rfl ⟨rfl, rfl, rfl, rfl, rfl⟩ rfl rfl rfl rfl rfl (by kernel_rfl) Try.func6 (by kernel_rfl)
    (of_decide_eq_true (by kernel_rfl)) (by unfold Func.isWrapper; first | (rw [if_pos (by decide +kernel)]; kernel_rfl) | (rw [if_neg (by decide +kernel)]; exact ⟨rfl, rfl⟩))
    (fun os started H enc _ => lifted os started H enc)

theorem proved : Rows.FramesLongSaid := over
end Go.Proofs.Ytnjihcjijicgpaa.lawFramesLong
