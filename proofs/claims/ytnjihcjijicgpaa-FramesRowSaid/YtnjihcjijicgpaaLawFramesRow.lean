/- Records that are put one behind the other are got one behind the other; behind the last one there is none; if bytes are cut off, those that end ahead are got, and no other one: for every input, no condition. -/
import Derived.Test.YtnjihcjijicgpaaFrRows
set_option linter.unusedSimpArgs false
set_option linter.unusedVariables false
namespace Herb.Fr
/-- Where the k-th record begins. -/
def posK (a : List UInt8) (rs : List (List UInt8)) (k : Nat) : Nat := (laidL a (rs.take k)).length
theorem laidL_app (a : List UInt8) (x y : List (List UInt8)) : laidL a (x ++ y) = laidL (laidL a x) y := by simp [laidL, List.foldl_append]
theorem laidL_pre (y : List (List UInt8)) : ∀ a, ∃ t, laidL a y = a ++ t := by
  induction y with
  | nil => intro a; exact ⟨[], by simp [laidL]⟩
  | cons r y ih =>
    intro a
    obtain ⟨t, ht⟩ := ih (a ++ put a.length r)
    exact ⟨put a.length r ++ t, by
      have e : laidL a (r :: y) = laidL (a ++ put a.length r) y := rfl
      rw [e, ht, List.append_assoc]⟩
theorem posK_zero (a : List UInt8) (rs : List (List UInt8)) : posK a rs 0 = a.length := by simp [posK, laidL]
theorem posK_end (a : List UInt8) (rs : List (List UInt8)) (k : Nat) (h : rs.length ≤ k) : posK a rs k = (laidL a rs).length := by unfold posK; rw [List.take_of_length_le h]
theorem posK_succ (a : List UInt8) (rs : List (List UInt8)) (k : Nat) (h : k < rs.length) : posK a rs (k + 1) = posK a rs k + (put (posK a rs k) rs[k]).length := by
  unfold posK
  rw [take_snoc rs k h, laidL_snoc, List.length_append]
theorem drop_pos (a : List UInt8) (rs : List (List UInt8)) (k : Nat) (h : k < rs.length) : ∃ t, (laidL a rs).drop (posK a rs k) = put (posK a rs k) rs[k] ++ t ∧ posK a rs (k + 1) ≤ (laidL a rs).length := by
  obtain ⟨t, ht⟩ := laidL_pre (rs.drop (k + 1)) (laidL a (rs.take (k + 1)))
  have e : laidL a rs = laidL a (rs.take (k + 1)) ++ t := by
    rw [← ht, ← laidL_app, List.take_append_drop]
  refine ⟨t, ?_, ?_⟩
  · rw [e, take_snoc rs k h, laidL_snoc, List.append_assoc]
    unfold posK
    rw [List.drop_append_of_le_length (Nat.le_refl _), List.drop_of_length_le (Nat.le_refl _), List.nil_append]
  · unfold posK
    conv => rhs; rw [e]
    rw [List.length_append]
    omega
theorem get_pos (a : List UInt8) (rs : List (List UInt8)) (k : Nat) (h : k < rs.length) (hr : rs[k].length ≤ 65536) : get (laidL a rs) (posK a rs k) = (rs[k], posK a rs (k + 1), 0) := by
  obtain ⟨t, ht, _⟩ := drop_pos a rs k h
  rw [posK_succ a rs k h]
  exact get_put _ _ _ t ht hr
theorem get_pos_cut (a : List UInt8) (rs : List (List UInt8)) (k s : Nat) (h : k < rs.length) (hr : rs[k].length ≤ 65536) (hs : posK a rs (k + 1) ≤ s) : get ((laidL a rs).take s) (posK a rs k) = (rs[k], posK a rs (k + 1), 0) := by
  obtain ⟨t, ht, _⟩ := drop_pos a rs k h
  have e := posK_succ a rs k h
  rw [e]
  refine get_put _ _ _ (t.take (s - posK a rs (k + 1))) ?_ hr
  rw [List.drop_take, ht, List.take_append, List.take_of_length_le (by omega)]
  congr 2
  omega
theorem posK_le (a : List UInt8) (rs : List (List UInt8)) (k : Nat) : posK a rs k ≤ (laidL a rs).length := by
  rcases Nat.lt_or_ge k rs.length with h | h
  · have h1 := (drop_pos a rs k h).choose_spec.2
    have h2 := posK_succ a rs k h
    omega
  · rw [posK_end a rs k h]
    exact Nat.le_refl _
end Herb.Fr
namespace Go.Proofs.Ytnjihcjijicgpaa.lawFramesRow
open Go Go.RowKit Herb Go.ChangeShapes Go.WideShapes Go.ChangeAt

set_option maxRecDepth 100000 in
set_option maxHeartbeats 6400000 in
theorem walk (w : World) (A : Option Addr) (c : Nat) (l : List UInt8) (hl : l.length ≤ 140737488355328) (hb : Bs w A l) (hlc : l.length ≤ c) (hc : c ≤ 140737488355328)
    (B : Option Addr) (d : Nat) (rs : List Rw) (hrd : Rd w 1 B rs.length (rwsC rs)) (hmd : rs.length ≤ 9223372036854775807) (hrs : ∀ y ∈ rs, Bs w y.A y.t ∧ y.t.length ≤ y.c) (hrb : ∀ y ∈ rs, y.t.length ≤ 140737488355328) (x : Nat) (hx : x < 65536) :
    Calls Try.prog 3 #[.slice A l.length c, .slice B rs.length d, .int .u16 (x : Int)] w fun e w' => e = .returned (.bool true) ∧ Below w.heap.size w w' := by
  obtain ⟨n, hn⟩ : ∃ n, l.length = n := ⟨_, rfl⟩
  obtain ⟨m, hm⟩ : ∃ m, rs.length = m := ⟨_, rfl⟩
  rw [hn] at hl hlc ⊢
  rw [hm] at hrd hmd ⊢
  obtain ⟨z, hz⟩ : ∃ z, decide (Fr.bulk l (rs.map Rw.t) < 20000) = z := ⟨_, rfl⟩
  have pf := few_any w A n c l hn hl B m d rs hm hmd hrd hrb z hz
  replace pf := Lib.hid pf
  cases z with
  | false =>
    clear hz
    go_enter Try.func3, Try.ntmps3
    go_wp2_with fail
    refine pf.out.mono ?_
    rintro _ _ ⟨rfl, rfl⟩
    go_wp2_with fail
    refine (lives_any _).mono ?_
    rintro _ w1 ⟨rfl, b1⟩
    go_wp2
    go_ret
    exact ⟨rfl, b1⟩
  | true =>
    have hbk : Fr.bulk l (rs.map Rw.t) < 20000 := of_decide_eq_true hz
    have pl := laid_any w A n c l hn hb B m d rs hm hrd hrs (by omega)
    have hT : ∀ k (h : k < rs.length), (rs[k]).t.length ≤ 20000 := fun k h => by
      have h2 := Fr.bulk_take l (rs.map Rw.t) (k + 1)
      rw [Fr.take_snoc _ _ (by simpa using h), Fr.bulk_snoc, List.getElem_map] at h2
      omega
    have hKb := Fr.laidL_le l (rs.map Rw.t)
    obtain ⟨b, hbe⟩ : ∃ b, Fr.laidL l (rs.map Rw.t) = b := ⟨_, rfl⟩
    rw [hbe] at hKb pl
    have hm2 : m ≤ 2000 := by
      have h : (rs.map Rw.t).length * 10 ≤ ((rs.map Rw.t).map (fun r => r.length + 10)).sum := by
        generalize rs.map Rw.t = q
        induction q with
        | nil => simp
        | cons a q ih => simp at ih ⊢; omega
      rw [List.length_map, hm] at h
      unfold Fr.bulk at hbk
      omega
    have hp0 := Fr.posK_zero l (rs.map Rw.t)
    have hpm := Fr.posK_end l (rs.map Rw.t) m (by rw [List.length_map, hm]; exact Nat.le_refl _)
    have hple := fun k => Fr.posK_le l (rs.map Rw.t) k
    have hget := fun k (h : k < rs.length) => Fr.get_pos l (rs.map Rw.t) k (by simpa using h) (by rw [List.getElem_map]; have := hT k h; omega)
    have hcut := fun k s (h : k < rs.length) (hs : Fr.posK l (rs.map Rw.t) (k + 1) ≤ s) => Fr.get_pos_cut l (rs.map Rw.t) k s (by simpa using h) (by rw [List.getElem_map]; have := hT k h; omega) hs
    have hend : ∀ k, k < m → (nvs (Fr.endsK l (rs.map Rw.t) m))[k]? = some (.int .i64 ((Fr.posK l (rs.map Rw.t) (k + 1) : Nat) : Int)) := fun k h => by
      simp [nvs, Fr.endsK, h, Fr.posK]
    rw [hn] at hp0
    rw [hbe] at hpm hple hget hcut
    generalize Fr.posK l (rs.map Rw.t) = P at *
    generalize nvs (Fr.endsK l (rs.map Rw.t) m) = EV at *
    replace pl := Lib.hid pl
    replace hn := Lib.hid hn
    replace hm := Lib.hid hm
    replace hp0 := Lib.hid hp0
    replace hpm := Lib.hid hpm
    replace hple := Lib.hid hple
    replace hget := Lib.hid hget
    replace hcut := Lib.hid hcut
    replace hend := Lib.hid hend
    replace hT := Lib.hid hT
    replace hrs := Lib.hid hrs
    clear hz hrb hbe hb
    go_enter Try.func3, Try.ntmps3
    go_wp2_with fail
    refine pf.out.mono ?_
    rintro _ _ ⟨rfl, rfl⟩
    clear pf
    go_wp2_with fail
    refine pl.out.mono ?_
    clear pl
    rintro _ w1 ⟨vb, ve, K, rfl, hK, hownb, howne, b1⟩
    obtain ⟨Ab, cb, rfl⟩ := own_slice hownb
    obtain ⟨Ae, ce, rfl⟩ := own_slice howne
    have hKc := own_cap hownb
    have hbB := (Bs.of_own hownb).2
    have hE := Rd.of_own howne
    have hKle : K ≤ 600000 := by omega
    replace hK := Lib.hid hK
    have hPK : ∀ k, P k ≤ K := fun k => by rw [← hK.out]; exact hple.out k
    replace hPK := Lib.hid hPK
    have hKc1 := hKc.1
    clear hownb howne hKc hKb
    go_wp2_with fail
    go_loopw [10, 11] (fun a i wr => ∃ k p : Nat, k ≤ m ∧ i = .int .i64 (k : Int) ∧ a = .int .i64 (p : Int) ∧ P k = p ∧ Below w1.heap.size w1 wr) (fun _ i _ => m - (intOf i).toNat)
    case atStart => exact ⟨0, n, by omega, rfl, rfl, hp0.out, Below.refl _ _⟩
    case round =>
      obtain ⟨k, p, hk, rfl, rfl, hp, hB⟩ := hrel
      have hpK : p ≤ K := by rw [← hp]; exact hPK.out k
      replace hp := Lib.hid hp
      by_cases hlt : k < m
      · have hkl : k < rs.length := by rw [hm.out]; exact hlt
        have hg := hget.out k hkl
        rw [hp.out] at hg
        obtain ⟨p', hp'⟩ : ∃ p', P (k + 1) = p' := ⟨_, rfl⟩
        have hpe := hend.out k hlt
        rw [hp'] at hg hpe
        have hB1 := b1.trans (hB.mono b1.size)
        obtain ⟨be, oe, rfl, _, hce⟩ := (hE.below hB).at_ hlt
        have hce0 := hce _ _ hpe
        obtain ⟨br, orr, rfl, _, hcr⟩ := (hrd.below hB1).at_ hlt
        have hcr0 := hcr _ _ (rwsC_get hkl)
        have hy := hrs.out _ (List.getElem_mem hkl)
        have hyt := hT.out k hkl
        obtain ⟨y, hye⟩ : ∃ y, rs[k] = y := ⟨_, rfl⟩
        have hmt : ((rs.map Rw.t)[k]'(by simpa using hkl)) = y.t := by rw [List.getElem_map, hye]
        rw [hmt] at hg
        rw [hye] at hcr0 hy hyt
        obtain ⟨yA, yc, yt⟩ := y
        simp only at hy hyt hg
        obtain ⟨q, hq⟩ : ∃ q, yt.length = q := ⟨_, rfl⟩
        have hc1 : wr.cell? ⟨br, orr + k, none⟩ = some (.slice yA q yc) := by rw [← hq]; exact hcr0
        have pg := get_at wr Ab K cb b hK.out (by omega) hKc1 (hbB.below hB) p hpK yt p' 0 hg
        rw [hq] at hyt
        replace pg := Lib.hid pg
        replace hq := Lib.hid hq
        replace hp' := Lib.hid hp'
        clear hce hcr hcr0 hg hpe hmt hye
        go_wp2_with fail
        refine pg.out.mono ?_
        rintro _ w2 ⟨A2, k2, cp2, rfl, hk2, hown2, b2⟩
        have hqk : k2 = q := by rw [← hk2]; exact hq.out
        subst hqk
        have hb2 := (Bs.of_own hown2).2
        have hB2 := hB.trans (b2.mono hB.size)
        have hce2 := (b2.cell (p := ⟨be, oe + k, none⟩) (by assumption)).trans hce0
        have hcr2 := (b2.cell (p := ⟨br, orr + k, none⟩) (by assumption)).trans hc1
        have hyb2 := (hy.1.below hB1).below b2
        clear hown2 hk2 pg
        go_wp2_with fail
        refine (sameBytes_yes w2 _ _ k2 _ _ yt hq.out (by omega) hb2 hyb2).mono ?_
        rintro _ w3 ⟨rfl, b3⟩
        have hB3 := hB2.trans (b3.mono hB2.size)
        clear hce2 hcr2 hyb2 hb2 hce0 hc1
        go_wp2_with fail
        go_roundw
        case rel => exact ⟨k + 1, p', by omega, by go_num, rfl, hp'.out, hB3⟩
        case measure => simp [intOf]; omega
      · obtain rfl : k = m := by omega
        have hpK2 : p = K := by rw [← hp.out, hpm.out, hK.out]
        subst hpK2
        go_wp2_with fail
        refine (no_yes wr Ab p cb b hK.out (by omega) hKc1 (hbB.below hB) p (Nat.le_refl _) 7 (Fr.get_none _ _ (by rw [hK.out]; exact Nat.le_refl _))).mono ?_
        rintro _ w2 ⟨rfl, b2⟩
        have hB2 := hB.trans (b2.mono hB.size)
        have hnp : n ≤ p := by rw [← hp0.out]; exact hPK.out 0
        obtain ⟨D1, hD1⟩ : ∃ D1 : Nat, (p : Int) - (n : Int) + 1 = (D1 : Int) := ⟨p - n + 1, by omega⟩
        have hD1p : 1 ≤ D1 := by omega
        have hD1b : D1 ≤ 600001 := by omega
        have hDi : (p : Int) - (n : Int) = (D1 : Int) - 1 := by omega
        obtain ⟨R, hR⟩ : ∃ R : Nat, (x : Int) % (D1 : Int) = (R : Int) ∧ R < D1 := ⟨x % D1, by simp, Nat.mod_lt _ (by omega)⟩
        obtain ⟨hRi, hRD⟩ := hR
        obtain ⟨s, hs⟩ : ∃ s : Nat, (p : Int) - (R : Int) = (s : Int) ∧ n ≤ s ∧ s ≤ p := ⟨p - R, by omega, by omega, by omega⟩
        obtain ⟨hsi, hns, hsp⟩ := hs
        have hscb : s ≤ cb := by omega
        have hsl : (b.take s).length = s := by rw [List.length_take, hK.out]; omega
        have hbS : Bs w1 Ab (b.take s) := hbB.take s
        replace hsl := Lib.hid hsl
        clear hDi
        go_wp2_with fail
        clear hD1 hRi hsi
        have hlt0 : n ≤ s := hns
        go_loopw [10, 16] (fun a i wr => ∃ j p2 : Nat, j ≤ k ∧ i = .int .i64 (j : Int) ∧ a = .int .i64 (p2 : Int) ∧ P j = p2 ∧ p2 ≤ s ∧ Below w1.heap.size w1 wr) (fun _ i _ => k - (intOf i).toNat)
        case atStart => exact ⟨0, n, by omega, rfl, rfl, hp0.out, hns, hB2⟩
        case round =>
          clear hB2 b2 hB
          obtain ⟨j, p2, hj, rfl, rfl, hp2, hp2s, hB⟩ := hrel
          replace hp2 := Lib.hid hp2
          by_cases hlt : j < k
          · have hkl : j < rs.length := by rw [hm.out]; exact hlt
            obtain ⟨p', hp'⟩ : ∃ p', P (j + 1) = p' := ⟨_, rfl⟩
            have hpe := hend.out j hlt
            rw [hp'] at hpe
            obtain ⟨be, oe, rfl, _, hce⟩ := (hE.below hB).at_ hlt
            have hce0 := hce _ _ hpe
            clear hce hpe
            by_cases hin : p' ≤ s
            · have hg := hcut.out j s hkl (by rw [hp']; exact hin)
              rw [hp2.out, hp'] at hg
              obtain ⟨yt, hyt⟩ : ∃ yt, ((rs.map Rw.t)[j]'(by simpa using hkl)) = yt := ⟨_, rfl⟩
              rw [hyt] at hg
              have pg := get_at _ Ab s cb (b.take s) hsl.out (by omega) hscb (hbS.below hB) p2 hp2s yt p' 0 hg
              replace pg := Lib.hid pg
              replace hp' := Lib.hid hp'
              have d8 : decide (s < p') = false := decide_eq_false (by omega)
              clear hg hyt
              go_wp2_with fail
              refine pg.out.mono ?_
              rintro _ w4 ⟨A4, k4, cp4, rfl, hk4, _, b4⟩
              have hce4 := (b4.cell (p := ⟨be, oe + j, none⟩) (by assumption)).trans hce0
              have hB4 := hB.trans (b4.mono hB.size)
              clear hk4 pg hce0
              go_wp2_with fail
              go_roundw
              case rel => exact ⟨j + 1, p', by omega, by go_num, rfl, hp'.out, hin, hB4⟩
              case measure => simp [intOf]; omega
            · have hg := hget.out j hkl
              rw [hp2.out, hp'] at hg
              have hne := Fr.get_short b p2 _ p' s hg (by omega)
              obtain ⟨e1, e2⟩ := Fr.get_err _ _ hne
              obtain ⟨er, her⟩ : ∃ er, (Fr.get (b.take s) p2).2.2 = er := ⟨_, rfl⟩
              have hres : Fr.get (b.take s) p2 = ([], 0, er) := by rw [← e1, ← e2, ← her]
              rw [her] at hne
              have pg := get_at _ Ab s cb (b.take s) hsl.out (by omega) hscb (hbS.below hB) p2 hp2s [] 0 er hres
              replace pg := Lib.hid pg
              have d8 : decide (s < p') = true := decide_eq_true (by omega)
              have d9 : ((er : Int) != 0) = true := by rw [bne_iff_ne]; omega
              clear hg hres her e1 e2 hp'
              go_wp2_with fail
              refine pg.out.mono ?_
              rintro _ w4 ⟨A4, k4, cp4, rfl, hk4, _, b4⟩
              have hk0 : k4 = 0 := hk4.symm
              subst hk0
              have hce4 := (b4.cell (p := ⟨be, oe + j, none⟩) (by assumption)).trans hce0
              have hB4 := hB.trans (b4.mono hB.size)
              clear hk4 pg hce0
              go_wp2_with fail
              refine (lives_any w4).mono ?_
              rintro _ w5 ⟨rfl, b5⟩
              have hB5 := b1.trans ((hB4.trans (b5.mono hB4.size)).mono b1.size)
              go_wp2
              go_ret
              exact ⟨rfl, hB5⟩
          · go_wp2_with fail
            refine (lives_any _).mono ?_
            rintro _ w5 ⟨rfl, b5⟩
            have hB5 := b1.trans ((hB.trans (b5.mono hB.size)).mono b1.size)
            go_wp2
            go_ret
            exact ⟨rfl, hB5⟩

/-! ### from the walk to the statement (by tail.py) -/
set_option maxRecDepth 100000 in
theorem lifted (os : Os) (started : os.Started) (H : Type) (enc : TypeId × Value → H) :
    ReturnsInHanded {} Try.checked os 3 .any (Rows.framesRowSpec.pre6 enc Try.prog Try.f3 Rows.framesRowRow.domain false) (Rows.framesRowSpec.post enc Try.prog Try.f3 false true false false) := by
  refine lifted_of (C := Try.checked) (tb := 4) (n := 3) (by kernel_rfl) started (by kernel_rfl) Try.func3 (by kernel_rfl) (by kernel_rfl) rfl (by kernel_rfl) Try.underlying4 (by kernel_rfl)
    (fun ds hd => by match ds, hd with | [d1, d2, d3], _ => exact ⟨rfl, rfl, rfl⟩)
    (ChangeSpec.witness6 (enc := enc) (C := Try.checked) false ⟨#[], #[.slice none 0 0, .slice none 0 0, .int .u16 0], []⟩ 8 (by kernel_rfl) (by kernel_rfl) (by kernel_rfl) (by kernel_rfl)) ?_
  intro W base args ds before hval hA hsz
  rw [Try.params3] at hA hval hsz
  obtain ⟨v0, vs0, d0, ds0, p0, q0, rfl, rfl, rfl, h0, r0⟩ := trodAll_cons hA
  obtain ⟨v1, vs1, d1, ds1, p1, q1, rfl, rfl, rfl, h1, r1⟩ := trodAll_cons r0
  obtain ⟨v2, vs2, d2, ds2, p2, q2, rfl, rfl, rfl, h2, r2⟩ := trodAll_cons r1
  obtain ⟨rfl, rfl, rfl⟩ := trodAll_nil r2
  obtain ⟨A0, c0, l0, rfl, hb0, hlc0, _, hcap0⟩ := open_bytes Try.underlying22 Try.underlying5 (by kernel_rfl) (by kernel_rfl) (hval 0 _ _ rfl rfl) h0
  have hc0 := hcap0 hsz 0 rfl rfl
  obtain ⟨A1, c1, ls1, rfl, hrd1, hlc1, hcm1, hls1, hcap1⟩ := open_rows (hval 1 _ _ rfl rfl) h1
  have hc1 := hcap1 hsz 1 rfl rfl
  obtain ⟨x2, rfl, hx2⟩ := open_u16 Try.underlying24 (hval 2 _ _ rfl rfl) h2
  exact walk W A0 c0 l0 (by have := reachBytes_lt; omega) hb0 hlc0 (by have := reachBytes_lt; omega) A1 c1 ls1 hrd1 (by omega) hls1 (fun y hy => by have := reachBytes_lt; have := hc1 y hy; have := (hls1 y hy).2; omega) x2 hx2

theorem over : Rows.framesRowRow.holds Try.pinned (OpenSpec.ofChange Rows.framesRowSpec) :=
  OpenClaim.holds_of_wide 3 Try.f3 rfl rfl rfl rfl rfl rfl rfl ⟨rfl, rfl, rfl, rfl, rfl⟩ rfl rfl rfl rfl rfl (by kernel_rfl) Try.func3 (by kernel_rfl)
    (of_decide_eq_true (by kernel_rfl)) (by unfold Func.isWrapper; first | (rw [if_pos (by decide +kernel)]; kernel_rfl) | (rw [if_neg (by decide +kernel)]; exact ⟨rfl, rfl⟩))
    (fun os started H enc _ => lifted os started H enc)

theorem proved : Rows.FramesRowSaid := over
end Go.Proofs.Ytnjihcjijicgpaa.lawFramesRow
