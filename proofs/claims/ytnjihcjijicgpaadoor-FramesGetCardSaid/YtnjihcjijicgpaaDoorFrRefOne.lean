/- Walk of the document's frames: One. -/
import Derived.Test.YtnjihcjijicgpaaDoorFrRefA
import Derived.Test.YtnjihcjijicgpaaDoorFrRefPut
import Derived.Test.YtnjihcjijicgpaaDoorCut
set_option linter.unusedSimpArgs false
set_option linter.unusedVariables false
namespace Go.Proofs.YtnjihcjijicgpaaDoor
open Go Go.RowKit Herb

theorem results_tmp4 {fn : Func} {t u v x : Tmp} (h : fn.results = #[.tmp t, .tmp u, .tmp v, .tmp x]) (tmps : Array Value) (P : Program) (w : World) :
    (results fn tmps).run P w = .ok (.tuple #[tmps.getD t undef, tmps.getD u undef, tmps.getD v undef, tmps.getD x undef]) w := by
  simp [results, h]
theorem kbT {x y : UInt8} {k : Int} (hy : (y.toNat : Int) = k) (h : x = y) : ((x.toNat : Int) == k) = true := by subst h; rw [hy]; simp
theorem kbF {x y : UInt8} {k : Int} (hy : (y.toNat : Int) = k) (h : ¬ x = y) : ((x.toNat : Int) == k) = false := by
  rw [← hy]
  simp only [beq_eq_false_iff_ne, ne_eq]
  exact fun e => h (UInt8.toNat_inj.1 (by omega))
theorem sub_get (l : List UInt8) (t k : Nat) (hk : k < 4) (h : t + k < l.length) : (Fr.sub l t 4)[k]? = some l[t + k] := by
  unfold Fr.sub
  rw [List.getElem?_take, if_pos hk, List.getElem?_drop, List.getElem?_eq_getElem h]
theorem tail3_at (l : List UInt8) (t : Nat) (k : UInt8) (m : Nat) (h : t + 6 < l.length) (hk : l[t + 6] = k) (hm : Fr.many l t = m) : Fr.sub l (t + 4) 3 = Fr.tail3 k m := by
  rw [Fr.sub3 _ _ (by omega)]
  have e : l.getD (t + 4 + 2) 0 = k := by rw [← hk, List.getD_eq_getElem?_getD, List.getElem?_eq_getElem (by omega)]; rfl
  rw [e]
  exact (Fr.tail3_many _ _ k m (by rw [← hm]; rfl)).symm
theorem u8sz : (Tryd.prog.info? 5).map (·.size) = some 1 := by kernel_rfl
/-- What One answers. -/
def oneP (w : World) (r : Nat ⊕ (UInt8 × List UInt8 × Nat)) (e : Ending) (w' : World) : Prop := Below w.heap.size w w' ∧ (match r with
      | .inl er => e = .returned (.tuple #[.int .u8 0, .slice none 0 0, .int .i64 0, .int .i64 (er : Int)])
      | .inr (k, x, q) => ∃ A' n' c', e = .returned (.tuple #[.int .u8 (k.toNat : Int), .slice A' n' c', .int .i64 (q : Int), .int .i64 0]) ∧ x.length = n' ∧ Bs w A' x)
theorem oneP_inl {w w' : World} {er : Nat} {r : Nat ⊕ (UInt8 × List UInt8 × Nat)} (h : Sum.inl er = r) (hb : Below w.heap.size w w') : oneP w r (.returned (.tuple #[.int .u8 0, .slice none 0 0, .int .i64 0, .int .i64 (er : Int)])) w' := by
  rw [← h]; exact ⟨hb, rfl⟩
theorem oneP_inr {w w' : World} {k : UInt8} {kv : Int} (hk : kv = (k.toNat : Int)) {x : List UInt8} {q : Nat} {r : Nat ⊕ (UInt8 × List UInt8 × Nat)} (h : Sum.inr (k, x, q) = r) (hb : Below w.heap.size w w') {A' : Option Addr} {n' c' : Nat} (hx : x.length = n') (hs : Bs w A' x) :
    oneP w r (.returned (.tuple #[.int .u8 kv, .slice A' n' c', .int .i64 (q : Int), .int .i64 0])) w' := by
  rw [← h, hk]; exact ⟨hb, A', n', c', rfl, hx, hs⟩
set_option maxRecDepth 100000 in
set_option maxHeartbeats 16000000 in
theorem refOne_any (w : World) (A : Option Addr) (n c : Nat) (l : List UInt8) (hl : l.length = n) (hn : n ≤ 1000000) (hnc : n ≤ c) (hb : Bs w A l) (p : Nat) (hp : p ≤ n) (g : Bool) (had : Nat) (hhad : had ≤ 1000000) (hg : g = false → had = 0) :
    Calls Tryd.prog 31 #[.slice A n c, .int .i64 (p : Int), .bool g, .int .i64 (had : Int)] w fun e w' => oneP w (Fr.step l p g had) e w' := by
  have hgeo := Fr.geo p
  have hgl := Fr.gap_le p
  obtain ⟨G, hG⟩ : ∃ G, Fr.gap p = G := ⟨_, rfl⟩
  obtain ⟨rm, hrm⟩ : ∃ rm, Fr.room p = rm := ⟨_, rfl⟩
  obtain ⟨t, ht⟩ : ∃ t, p + G = t := ⟨_, rfl⟩
  have cg := fun W => refGap_any p G hG (by omega) (p : Int) rfl W
  rw [hrm, hG, ht] at hgeo
  rw [hG] at hgl
  have hpt : (p : Int) + (G : Int) = (t : Int) := by omega
  have hL2 : (256 : Int) - (t : Int) % 256 - 7 = (rm : Int) := by omega
  have hrm249 : rm ≤ 249 := by omega
  obtain ⟨mt, hmt⟩ : ∃ mt, min t n = mt := ⟨_, rfl⟩
  have hmin : ∀ W, (Builtin.min_ #[3, 3] 3 #[.int .i64 (t : Int), .int .i64 (n : Int)]).run Tryd.prog W = .ok (.int .i64 (mt : Int)) W := fun W => by rw [run_min2]; congr 3; omega
  have kc := run_cut (P := Tryd.prog) Tryd.underlying22 u8sz A n c p mt (by omega) (by omega)
  have hsub : ((l.drop p).take (mt - p)) = Fr.sub l p G := by
    unfold Fr.sub
    by_cases h : t ≤ n
    · rw [show mt - p = G by omega]
    · rw [List.take_of_length_le (by rw [List.length_drop]; omega), List.take_of_length_le (by rw [List.length_drop]; omega)]
  have bz := hb.cutA (k := p) (m := mt - p) (by omega) (by omega : l.length ≤ c)
  rw [hsub] at bz
  obtain ⟨z, hz⟩ : ∃ z, Fr.allZ (Fr.sub l p G) = z := ⟨_, rfl⟩
  have pn := refNone_any w (cutA A c p) (mt - p) (c - p) (Fr.sub l p G) (by rw [← hsub, List.length_take, List.length_drop]; omega) (by omega) bz z hz
  have htb : t ≤ 1000010 := by omega
  have hst : Fr.step l p g had = (if z = false then .inl 4 else if n < t + 7 then .inl 5 else if Fr.fits (l.getD (t + 6) 0) (Fr.many l t) g rm had = false then .inl 4 else if n < t + 7 + Fr.many l t then .inl 5
      else if Fr.le4 (Fr.sumT (Fr.sub l (t + 4) 3) (Fr.sub l (t + 7) (Fr.many l t))) ≠ Fr.sub l t 4 then .inl 6 else .inr (l.getD (t + 6) 0, Fr.sub l (t + 7) (Fr.many l t), t + 7 + Fr.many l t)) := by
    unfold Fr.step
    rw [hG, ht, hrm, hz, hl]
  rw [hst]
  clear hst
  obtain ⟨res, hres⟩ : ∃ res : Nat ⊕ (UInt8 × List UInt8 × Nat), (if z = false then .inl 4 else if n < t + 7 then .inl 5 else if Fr.fits (l.getD (t + 6) 0) (Fr.many l t) g rm had = false then .inl 4 else if n < t + 7 + Fr.many l t then .inl 5
      else if Fr.le4 (Fr.sumT (Fr.sub l (t + 4) 3) (Fr.sub l (t + 7) (Fr.many l t))) ≠ Fr.sub l t 4 then .inl 6 else .inr (l.getD (t + 6) 0, Fr.sub l (t + 7) (Fr.many l t), t + 7 + Fr.many l t)) = res := ⟨_, rfl⟩
  rw [hres]
  replace hres := Lib.hid hres
  clear hsub bz hz hgeo hG ht hmt hrm hgl
  replace pn := Lib.hid pn
  replace hl := Lib.hid hl
  go_enter Tryd.func31, Tryd.ntmps31
  go_wp2_with fail
  refine (cg _).mono ?_
  clear cg
  rintro _ _ ⟨rfl, rfl⟩
  go_wp2_with fail
  refine pn.out.mono ?_
  clear pn kc
  rintro _ _ ⟨rfl, rfl⟩
  cases z
  · have hr := hres.out
    rw [if_pos rfl] at hr
    go_wp2
    (try simp only [Exit.inBlock, Exit.then]); refine bodyPost_ret (results_tmp4 rfl _ _ _) rfl ?_
    exact oneP_inl hr (Below.refl _ _)
  replace hres := hres.out
  rw [if_neg (by simp)] at hres
  by_cases hs : n < t + 7
  · rw [if_pos hs] at hres
    have e1 : decide ((n : Int) < (t : Int) + 7) = true := decide_eq_true (by omega)
    replace hres := Lib.hid hres
    go_wp2
    (try simp only [Exit.inBlock, Exit.then]); refine bodyPost_ret (results_tmp4 rfl _ _ _) rfl ?_
    exact oneP_inl hres.out (Below.refl _ _)
  rw [if_neg hs] at hres
  have e1 : decide ((n : Int) < (t : Int) + 7) = false := decide_eq_false (by omega)
  obtain ⟨b, off, rfl, hblt, hc⟩ := hb.at_ (k := t) (by rw [hl.out]; omega)
  obtain ⟨x4, hx4⟩ : ∃ y, l[t + 4]'(by rw [hl.out]; omega) = y := ⟨_, rfl⟩
  have y4 : w.cell? ⟨b, off + (t + 4), none⟩ = some (.int .u8 (x4.toNat : Int)) := by rw [← hx4]; exact hc (t + 4) (by rw [hl.out]; omega)
  obtain ⟨x5, hx5⟩ : ∃ y, l[t + 5]'(by rw [hl.out]; omega) = y := ⟨_, rfl⟩
  have y5 : w.cell? ⟨b, off + (t + 5), none⟩ = some (.int .u8 (x5.toNat : Int)) := by rw [← hx5]; exact hc (t + 5) (by rw [hl.out]; omega)
  obtain ⟨x6, hx6⟩ : ∃ y, l[t + 6]'(by rw [hl.out]; omega) = y := ⟨_, rfl⟩
  have y6 : w.cell? ⟨b, off + (t + 6), none⟩ = some (.int .u8 (x6.toNat : Int)) := by rw [← hx6]; exact hc (t + 6) (by rw [hl.out]; omega)
  obtain ⟨m, hm⟩ : ∃ m, Fr.many l t = m := ⟨_, rfl⟩
  have hmI : (x4.toNat : Int) + 256 * (x5.toNat : Int) = (m : Int) := by
    rw [← hm, ← hx4, ← hx5]
    unfold Fr.many
    rw [List.getD_eq_getElem?_getD, List.getD_eq_getElem?_getD, List.getElem?_eq_getElem (by rw [hl.out]; omega), List.getElem?_eq_getElem (by rw [hl.out]; omega)]
    simp
  have hx6d : l.getD (t + 6) 0 = x6 := by rw [← hx6, List.getD_eq_getElem?_getD, List.getElem?_eq_getElem (by rw [hl.out]; omega)]; rfl
  have hm16 : m < 65536 := by rw [← hm]; exact Fr.many_lt _ _
  rw [hm, hx6d] at hres
  replace hres := Lib.hid hres
  replace hc := Lib.hid hc
  replace hx4 := Lib.hid hx4
  replace hx5 := Lib.hid hx5
  replace hx6 := Lib.hid hx6
  replace hm := Lib.hid hm
  replace hx6d := Lib.hid hx6d
  -- paths
  rcases g with _ | _
  · obtain rfl := hg rfl
    by_cases k1 : x6 = 1
    · have k2 : ¬ x6 = 2 := by rw [k1]; decide
      have k3 : ¬ x6 = 3 := by rw [k1]; decide
      have k4 : ¬ x6 = 4 := by rw [k1]; decide
      by_cases hgt0 : rm < m
      · have hf : Fr.fits x6 m false rm 0 = false := by unfold Fr.fits; simp [*] <;> omega
        have b1 : ((x6.toNat : Int) == 1) = true := kbT (y := 1) rfl k1
        have b2 : ((x6.toNat : Int) == 2) = false := kbF (y := 2) rfl k2
        have b3 : ((x6.toNat : Int) == 3) = false := kbF (y := 3) rfl k3
        have b4 : ((x6.toNat : Int) == 4) = false := kbF (y := 4) rfl k4
        have rgt : decide ((rm : Int) < (m : Int)) = true := decide_eq_true (by omega)
        have hr := hres.out
        rw [if_pos hf] at hr
        replace hr := Lib.hid hr
        clear hf hres
        go_wp2_with fail
        go_quiet (fail)
        all_goals
          go_wp2
          (try simp only [Exit.inBlock, Exit.then]); refine bodyPost_ret (results_tmp4 rfl _ _ _) rfl ?_
          exact oneP_inl hr.out (below_drewN (Below.refl _ _) _)
      · by_cases hlt0 : m < rm
        · by_cases hz0 : m = 0
          · have hf : Fr.fits x6 m false rm 0 = true := by unfold Fr.fits; simp [*] <;> omega
            have b1 : ((x6.toNat : Int) == 1) = true := kbT (y := 1) rfl k1
            have b2 : ((x6.toNat : Int) == 2) = false := kbF (y := 2) rfl k2
            have b3 : ((x6.toNat : Int) == 3) = false := kbF (y := 3) rfl k3
            have b4 : ((x6.toNat : Int) == 4) = false := kbF (y := 4) rfl k4
            have rgt : decide ((rm : Int) < (m : Int)) = false := decide_eq_false (by omega)
            have rlt : decide ((m : Int) < (rm : Int)) = true := decide_eq_true (by omega)
            have rz : ((m : Int) == 0) = true := by simp; omega
            have rov : decide ((65536 : Int) < 0 + (m : Int)) = false := decide_eq_false (by omega)
            replace hz0 := Lib.hid hz0
            have hr := hres.out
            rw [if_neg (by rw [hf]; simp)] at hr
            clear hf hres
            have ht7i : (t : Int) + 7 = ((t + 7 : Nat) : Int) := by omega
            obtain ⟨t7, ht7⟩ : ∃ t7, t + 7 = t7 := ⟨_, rfl⟩
            rw [ht7] at hr ht7i
            obtain ⟨u, hu⟩ : ∃ u, t7 + m = u := ⟨_, rfl⟩
            have hui : (t7 : Int) + (m : Int) = (u : Int) := by omega
            rw [hu] at hr
            have e1' : decide ((n : Int) < (t7 : Int)) = false := decide_eq_false (by omega)
            by_cases hs2 : n < u
            · rw [if_pos hs2] at hr
              have e2 : decide ((n : Int) < (u : Int)) = true := decide_eq_true (by omega)
              replace hr := Lib.hid hr
              clear ht7 hu
              go_wp2_with fail
              go_quiet (fail)
              all_goals
                go_wp2
                (try simp only [Exit.inBlock, Exit.then]); refine bodyPost_ret (results_tmp4 rfl _ _ _) rfl ?_
                exact oneP_inl hr.out (below_drewN (Below.refl _ _) _)
            · rw [if_neg hs2] at hr
              have e2 : decide ((n : Int) < (u : Int)) = false := decide_eq_false (by omega)
              have hX6 := tail3_at l t x6 m (by rw [hl.out]; omega) hx6.out hm.out
              rw [hX6] at hr
              obtain ⟨X, hX⟩ : ∃ X, Fr.sub l t7 m = X := ⟨_, rfl⟩
              have hXl : X.length = m := by rw [← hX]; exact Fr.sub_length _ _ _ (by rw [hl.out]; omega)
              have bX : Bs w (cutA (some ⟨b, off, none⟩) c t7) X := by rw [← hX]; exact hb.cutA (by rw [hl.out]; omega) (by rw [hl.out]; exact hnc)
              have kc2 := run_cut (P := Tryd.prog) Tryd.underlying22 u8sz (some ⟨b, off, none⟩) n c t7 u (by omega) (by omega)
              have hum : u - t7 = m := by omega
              rw [hum] at kc2
              rw [hX] at hr
              have hpl : Fr.part x6 X = Fr.le4 (Fr.sumT (Fr.tail3 x6 m) X) ++ (Fr.tail3 x6 m ++ X) := by unfold Fr.part Fr.head; rw [hXl, List.append_assoc]
              replace hr := Lib.hid hr
              replace hpl := Lib.hid hpl
              have hsl : ∀ j, j < 4 → (Fr.sub l t 4)[j]? = l[t + j]? := fun j hj => by unfold Fr.sub; rw [List.getElem?_take, if_pos hj, List.getElem?_drop]
              have htn : t + 4 ≤ n := by omega
              replace hsl := Lib.hid hsl
              replace hXl := Lib.hid hXl
              clear ht7 hu hX6 hX hum
              go_wp2_with fail
              go_quiet (fail)
              go_wp2_with fail
              refine (refPart_at _ x6 1 (by rw [k1]; rfl) _ m _ X hXl.out (by omega) (bX.drewN _)).mono ?_
              rintro _ w3 ⟨A3, c3, rfl, hown3, b3⟩
              have hB3 : Below w.heap.size w w3 := (below_drewN (Below.refl w.heap.size w) _).trans b3
              have s3 := (Bs.of_own hown3).2
              obtain ⟨g3, o3, rfl, hlt3, hc3⟩ := s3.at_ (k := 0) (by rw [Fr.part_length]; omega)
              have hpp : 4 ≤ (Fr.part x6 X).length := by rw [Fr.part_length]; omega
              replace hc3 := Lib.hid hc3
              replace bX := Lib.hid bX
              clear hown3 s3 b3 kc2
              go_wp2_with fail
              go_loopw [19] (fun v19 wr => ∃ k : Nat, v19 = .int .i64 (k : Int) ∧ k ≤ 4 ∧ (∀ j, j < k → (Fr.part x6 X)[j]? = l[t + j]?) ∧ Below w3.heap.size w3 wr) (fun v19 _ => 4 - (intOf v19).toNat)
              case atStart => exact ⟨0, rfl, by omega, fun j h => absurd h (by omega), Below.refl _ _⟩
              case round =>
                obtain ⟨k, rfl, hk, hP, hBr⟩ := hrel
                by_cases hk4 : k < 4
                · obtain ⟨x, hx⟩ : ∃ x, (Fr.part x6 X)[k]'(by omega) = x := ⟨_, rfl⟩
                  obtain ⟨y, hy⟩ : ∃ y, l[t + k]'(by rw [hl.out]; omega) = y := ⟨_, rfl⟩
                  have ca : wr.cell? ⟨g3, o3 + k, none⟩ = some (.int .u8 (x.toNat : Int)) := by rw [← hx]; exact (hBr.cell (p := ⟨g3, o3 + k, none⟩) hlt3).trans (hc3.out k (by omega))
                  have cb : wr.cell? ⟨b, off + (t + k), none⟩ = some (.int .u8 (y.toNat : Int)) := by rw [← hy]; exact (hBr.cell (p := ⟨b, off + (t + k), none⟩) (Nat.lt_of_lt_of_le hblt hB3.size)).trans ((hB3.cell (p := ⟨b, off + (t + k), none⟩) hblt).trans (hc.out (t + k) (by rw [hl.out]; omega)))
                  have dk : decide ((k : Int) < 4) = true := decide_eq_true (by omega)
                  obtain ⟨tk, htk⟩ : ∃ tk, t + k = tk := ⟨_, rfl⟩
                  have htki : (t : Int) + (k : Int) = (tk : Int) := by omega
                  rw [htk] at cb
                  replace htk := Lib.hid htk
                  have hx' : (Fr.part x6 X)[k]? = some x := by rw [← hx]; exact List.getElem?_eq_getElem _
                  have hy' : l[t + k]? = some y := by rw [← hy]; exact List.getElem?_eq_getElem _
                  replace hx' := Lib.hid hx'
                  replace hy' := Lib.hid hy'
                  replace hP := Lib.hid hP
                  clear hx hy
                  by_cases hxy : x = y
                  · have hne : ((x.toNat : Int) != (y.toNat : Int)) = false := by rw [hxy]; simp
                    replace hxy := Lib.hid hxy
                    go_wp2_with fail
                    go_quiet (fail)
                    all_goals
                      go_wp2_with fail
                      go_roundw
                      case rel =>
                        refine ⟨k + 1, by go_num, by omega, fun j hj => ?_, below_drewN hBr _⟩
                        rcases Nat.lt_succ_iff_lt_or_eq.1 hj with h | rfl
                        · exact hP.out j h
                        · rw [hx'.out, hy'.out, hxy.out]
                      case measure => simp [intOf]; omega
                  · have hne : ((x.toNat : Int) != (y.toNat : Int)) = true := by
                      have : x.toNat ≠ y.toNat := fun e => hxy (UInt8.toNat_inj.1 e)
                      simp; omega
                    have hrn := hr.out
                    rw [if_pos (fun e => hxy (by
                      have h1 : (Fr.part x6 X)[k]? = (Fr.le4 (Fr.sumT (Fr.tail3 x6 m) X))[k]? := by rw [hpl.out, List.getElem?_append_left (by rw [Fr.le4_length]; exact hk4)]
                      rw [e, hsl.out k hk4, hx'.out, hy'.out] at h1
                      exact Option.some.inj h1))] at hrn
                    replace hrn := Lib.hid hrn
                    replace hxy := Lib.hid hxy
                    go_wp2_with fail
                    go_quiet (fail)
                    all_goals
                      go_wp2
                      (try simp only [Exit.inBlock, Exit.then]); refine bodyPost_ret (results_tmp4 rfl _ _ _) rfl ?_
                      exact oneP_inl hrn.out (below_drewN (hB3.trans (hBr.mono hB3.size)) _)
                · have hk' : k = 4 := by omega
                  subst hk'
                  have hrn := hr.out
                  rw [if_neg (fun h => h (by
                    apply List.ext_getElem?
                    intro j
                    rcases Nat.lt_or_ge j 4 with hj | hj
                    · have h1 : (Fr.part x6 X)[j]? = (Fr.le4 (Fr.sumT (Fr.tail3 x6 m) X))[j]? := by rw [hpl.out, List.getElem?_append_left (by rw [Fr.le4_length]; exact hj)]
                      rw [← h1, hP j hj, hsl.out j hj]
                    · rw [List.getElem?_eq_none (by rw [Fr.le4_length]; exact hj), List.getElem?_eq_none (by unfold Fr.sub; rw [List.length_take]; omega)]))] at hrn
                  replace hrn := Lib.hid hrn
                  clear hP
                  go_wp2_with fail
                  (try simp only [Exit.inBlock, Exit.then]); refine bodyPost_ret (results_tmp4 rfl _ _ _) rfl ?_
                  exact oneP_inr (kv := 1) (by rw [k1]; rfl) hrn.out (hB3.trans (hBr.mono hB3.size)) hXl.out bX.out
          · have hf : Fr.fits x6 m false rm 0 = true := by unfold Fr.fits; simp [*] <;> omega
            have b1 : ((x6.toNat : Int) == 1) = true := kbT (y := 1) rfl k1
            have b2 : ((x6.toNat : Int) == 2) = false := kbF (y := 2) rfl k2
            have b3 : ((x6.toNat : Int) == 3) = false := kbF (y := 3) rfl k3
            have b4 : ((x6.toNat : Int) == 4) = false := kbF (y := 4) rfl k4
            have rgt : decide ((rm : Int) < (m : Int)) = false := decide_eq_false (by omega)
            have rlt : decide ((m : Int) < (rm : Int)) = true := decide_eq_true (by omega)
            have rz : ((m : Int) == 0) = false := by simp; omega
            have rov : decide ((65536 : Int) < 0 + (m : Int)) = false := decide_eq_false (by omega)
            have hr := hres.out
            rw [if_neg (by rw [hf]; simp)] at hr
            clear hf hres
            have ht7i : (t : Int) + 7 = ((t + 7 : Nat) : Int) := by omega
            obtain ⟨t7, ht7⟩ : ∃ t7, t + 7 = t7 := ⟨_, rfl⟩
            rw [ht7] at hr ht7i
            obtain ⟨u, hu⟩ : ∃ u, t7 + m = u := ⟨_, rfl⟩
            have hui : (t7 : Int) + (m : Int) = (u : Int) := by omega
            rw [hu] at hr
            have e1' : decide ((n : Int) < (t7 : Int)) = false := decide_eq_false (by omega)
            by_cases hs2 : n < u
            · rw [if_pos hs2] at hr
              have e2 : decide ((n : Int) < (u : Int)) = true := decide_eq_true (by omega)
              replace hr := Lib.hid hr
              clear ht7 hu
              go_wp2_with fail
              go_quiet (fail)
              all_goals
                go_wp2
                (try simp only [Exit.inBlock, Exit.then]); refine bodyPost_ret (results_tmp4 rfl _ _ _) rfl ?_
                exact oneP_inl hr.out (below_drewN (Below.refl _ _) _)
            · rw [if_neg hs2] at hr
              have e2 : decide ((n : Int) < (u : Int)) = false := decide_eq_false (by omega)
              have hX6 := tail3_at l t x6 m (by rw [hl.out]; omega) hx6.out hm.out
              rw [hX6] at hr
              obtain ⟨X, hX⟩ : ∃ X, Fr.sub l t7 m = X := ⟨_, rfl⟩
              have hXl : X.length = m := by rw [← hX]; exact Fr.sub_length _ _ _ (by rw [hl.out]; omega)
              have bX : Bs w (cutA (some ⟨b, off, none⟩) c t7) X := by rw [← hX]; exact hb.cutA (by rw [hl.out]; omega) (by rw [hl.out]; exact hnc)
              have kc2 := run_cut (P := Tryd.prog) Tryd.underlying22 u8sz (some ⟨b, off, none⟩) n c t7 u (by omega) (by omega)
              have hum : u - t7 = m := by omega
              rw [hum] at kc2
              rw [hX] at hr
              have hpl : Fr.part x6 X = Fr.le4 (Fr.sumT (Fr.tail3 x6 m) X) ++ (Fr.tail3 x6 m ++ X) := by unfold Fr.part Fr.head; rw [hXl, List.append_assoc]
              replace hr := Lib.hid hr
              replace hpl := Lib.hid hpl
              have hsl : ∀ j, j < 4 → (Fr.sub l t 4)[j]? = l[t + j]? := fun j hj => by unfold Fr.sub; rw [List.getElem?_take, if_pos hj, List.getElem?_drop]
              have htn : t + 4 ≤ n := by omega
              replace hsl := Lib.hid hsl
              replace hXl := Lib.hid hXl
              clear ht7 hu hX6 hX hum
              go_wp2_with fail
              go_quiet (fail)
              go_wp2_with fail
              refine (refPart_at _ x6 1 (by rw [k1]; rfl) _ m _ X hXl.out (by omega) (bX.drewN _)).mono ?_
              rintro _ w3 ⟨A3, c3, rfl, hown3, b3⟩
              have hB3 : Below w.heap.size w w3 := (below_drewN (Below.refl w.heap.size w) _).trans b3
              have s3 := (Bs.of_own hown3).2
              obtain ⟨g3, o3, rfl, hlt3, hc3⟩ := s3.at_ (k := 0) (by rw [Fr.part_length]; omega)
              have hpp : 4 ≤ (Fr.part x6 X).length := by rw [Fr.part_length]; omega
              replace hc3 := Lib.hid hc3
              replace bX := Lib.hid bX
              clear hown3 s3 b3 kc2
              go_wp2_with fail
              go_loopw [19] (fun v19 wr => ∃ k : Nat, v19 = .int .i64 (k : Int) ∧ k ≤ 4 ∧ (∀ j, j < k → (Fr.part x6 X)[j]? = l[t + j]?) ∧ Below w3.heap.size w3 wr) (fun v19 _ => 4 - (intOf v19).toNat)
              case atStart => exact ⟨0, rfl, by omega, fun j h => absurd h (by omega), Below.refl _ _⟩
              case round =>
                obtain ⟨k, rfl, hk, hP, hBr⟩ := hrel
                by_cases hk4 : k < 4
                · obtain ⟨x, hx⟩ : ∃ x, (Fr.part x6 X)[k]'(by omega) = x := ⟨_, rfl⟩
                  obtain ⟨y, hy⟩ : ∃ y, l[t + k]'(by rw [hl.out]; omega) = y := ⟨_, rfl⟩
                  have ca : wr.cell? ⟨g3, o3 + k, none⟩ = some (.int .u8 (x.toNat : Int)) := by rw [← hx]; exact (hBr.cell (p := ⟨g3, o3 + k, none⟩) hlt3).trans (hc3.out k (by omega))
                  have cb : wr.cell? ⟨b, off + (t + k), none⟩ = some (.int .u8 (y.toNat : Int)) := by rw [← hy]; exact (hBr.cell (p := ⟨b, off + (t + k), none⟩) (Nat.lt_of_lt_of_le hblt hB3.size)).trans ((hB3.cell (p := ⟨b, off + (t + k), none⟩) hblt).trans (hc.out (t + k) (by rw [hl.out]; omega)))
                  have dk : decide ((k : Int) < 4) = true := decide_eq_true (by omega)
                  obtain ⟨tk, htk⟩ : ∃ tk, t + k = tk := ⟨_, rfl⟩
                  have htki : (t : Int) + (k : Int) = (tk : Int) := by omega
                  rw [htk] at cb
                  replace htk := Lib.hid htk
                  have hx' : (Fr.part x6 X)[k]? = some x := by rw [← hx]; exact List.getElem?_eq_getElem _
                  have hy' : l[t + k]? = some y := by rw [← hy]; exact List.getElem?_eq_getElem _
                  replace hx' := Lib.hid hx'
                  replace hy' := Lib.hid hy'
                  replace hP := Lib.hid hP
                  clear hx hy
                  by_cases hxy : x = y
                  · have hne : ((x.toNat : Int) != (y.toNat : Int)) = false := by rw [hxy]; simp
                    replace hxy := Lib.hid hxy
                    go_wp2_with fail
                    go_quiet (fail)
                    all_goals
                      go_wp2_with fail
                      go_roundw
                      case rel =>
                        refine ⟨k + 1, by go_num, by omega, fun j hj => ?_, below_drewN hBr _⟩
                        rcases Nat.lt_succ_iff_lt_or_eq.1 hj with h | rfl
                        · exact hP.out j h
                        · rw [hx'.out, hy'.out, hxy.out]
                      case measure => simp [intOf]; omega
                  · have hne : ((x.toNat : Int) != (y.toNat : Int)) = true := by
                      have : x.toNat ≠ y.toNat := fun e => hxy (UInt8.toNat_inj.1 e)
                      simp; omega
                    have hrn := hr.out
                    rw [if_pos (fun e => hxy (by
                      have h1 : (Fr.part x6 X)[k]? = (Fr.le4 (Fr.sumT (Fr.tail3 x6 m) X))[k]? := by rw [hpl.out, List.getElem?_append_left (by rw [Fr.le4_length]; exact hk4)]
                      rw [e, hsl.out k hk4, hx'.out, hy'.out] at h1
                      exact Option.some.inj h1))] at hrn
                    replace hrn := Lib.hid hrn
                    replace hxy := Lib.hid hxy
                    go_wp2_with fail
                    go_quiet (fail)
                    all_goals
                      go_wp2
                      (try simp only [Exit.inBlock, Exit.then]); refine bodyPost_ret (results_tmp4 rfl _ _ _) rfl ?_
                      exact oneP_inl hrn.out (below_drewN (hB3.trans (hBr.mono hB3.size)) _)
                · have hk' : k = 4 := by omega
                  subst hk'
                  have hrn := hr.out
                  rw [if_neg (fun h => h (by
                    apply List.ext_getElem?
                    intro j
                    rcases Nat.lt_or_ge j 4 with hj | hj
                    · have h1 : (Fr.part x6 X)[j]? = (Fr.le4 (Fr.sumT (Fr.tail3 x6 m) X))[j]? := by rw [hpl.out, List.getElem?_append_left (by rw [Fr.le4_length]; exact hj)]
                      rw [← h1, hP j hj, hsl.out j hj]
                    · rw [List.getElem?_eq_none (by rw [Fr.le4_length]; exact hj), List.getElem?_eq_none (by unfold Fr.sub; rw [List.length_take]; omega)]))] at hrn
                  replace hrn := Lib.hid hrn
                  clear hP
                  go_wp2_with fail
                  (try simp only [Exit.inBlock, Exit.then]); refine bodyPost_ret (results_tmp4 rfl _ _ _) rfl ?_
                  exact oneP_inr (kv := 1) (by rw [k1]; rfl) hrn.out (hB3.trans (hBr.mono hB3.size)) hXl.out bX.out
        · by_cases hz0 : m = 0
          · have hf : Fr.fits x6 m false rm 0 = true := by unfold Fr.fits; simp [*] <;> omega
            have b1 : ((x6.toNat : Int) == 1) = true := kbT (y := 1) rfl k1
            have b2 : ((x6.toNat : Int) == 2) = false := kbF (y := 2) rfl k2
            have b3 : ((x6.toNat : Int) == 3) = false := kbF (y := 3) rfl k3
            have b4 : ((x6.toNat : Int) == 4) = false := kbF (y := 4) rfl k4
            have rgt : decide ((rm : Int) < (m : Int)) = false := decide_eq_false (by omega)
            have rlt : decide ((m : Int) < (rm : Int)) = false := decide_eq_false (by omega)
            have rz : ((m : Int) == 0) = true := by simp; omega
            have rov : decide ((65536 : Int) < 0 + (m : Int)) = false := decide_eq_false (by omega)
            replace hz0 := Lib.hid hz0
            have hr := hres.out
            rw [if_neg (by rw [hf]; simp)] at hr
            clear hf hres
            have ht7i : (t : Int) + 7 = ((t + 7 : Nat) : Int) := by omega
            obtain ⟨t7, ht7⟩ : ∃ t7, t + 7 = t7 := ⟨_, rfl⟩
            rw [ht7] at hr ht7i
            obtain ⟨u, hu⟩ : ∃ u, t7 + m = u := ⟨_, rfl⟩
            have hui : (t7 : Int) + (m : Int) = (u : Int) := by omega
            rw [hu] at hr
            have e1' : decide ((n : Int) < (t7 : Int)) = false := decide_eq_false (by omega)
            by_cases hs2 : n < u
            · rw [if_pos hs2] at hr
              have e2 : decide ((n : Int) < (u : Int)) = true := decide_eq_true (by omega)
              replace hr := Lib.hid hr
              clear ht7 hu
              go_wp2_with fail
              go_quiet (fail)
              all_goals
                go_wp2
                (try simp only [Exit.inBlock, Exit.then]); refine bodyPost_ret (results_tmp4 rfl _ _ _) rfl ?_
                exact oneP_inl hr.out (below_drewN (Below.refl _ _) _)
            · rw [if_neg hs2] at hr
              have e2 : decide ((n : Int) < (u : Int)) = false := decide_eq_false (by omega)
              have hX6 := tail3_at l t x6 m (by rw [hl.out]; omega) hx6.out hm.out
              rw [hX6] at hr
              obtain ⟨X, hX⟩ : ∃ X, Fr.sub l t7 m = X := ⟨_, rfl⟩
              have hXl : X.length = m := by rw [← hX]; exact Fr.sub_length _ _ _ (by rw [hl.out]; omega)
              have bX : Bs w (cutA (some ⟨b, off, none⟩) c t7) X := by rw [← hX]; exact hb.cutA (by rw [hl.out]; omega) (by rw [hl.out]; exact hnc)
              have kc2 := run_cut (P := Tryd.prog) Tryd.underlying22 u8sz (some ⟨b, off, none⟩) n c t7 u (by omega) (by omega)
              have hum : u - t7 = m := by omega
              rw [hum] at kc2
              rw [hX] at hr
              have hpl : Fr.part x6 X = Fr.le4 (Fr.sumT (Fr.tail3 x6 m) X) ++ (Fr.tail3 x6 m ++ X) := by unfold Fr.part Fr.head; rw [hXl, List.append_assoc]
              replace hr := Lib.hid hr
              replace hpl := Lib.hid hpl
              have hsl : ∀ j, j < 4 → (Fr.sub l t 4)[j]? = l[t + j]? := fun j hj => by unfold Fr.sub; rw [List.getElem?_take, if_pos hj, List.getElem?_drop]
              have htn : t + 4 ≤ n := by omega
              replace hsl := Lib.hid hsl
              replace hXl := Lib.hid hXl
              clear ht7 hu hX6 hX hum
              go_wp2_with fail
              go_quiet (fail)
              go_wp2_with fail
              refine (refPart_at _ x6 1 (by rw [k1]; rfl) _ m _ X hXl.out (by omega) (bX.drewN _)).mono ?_
              rintro _ w3 ⟨A3, c3, rfl, hown3, b3⟩
              have hB3 : Below w.heap.size w w3 := (below_drewN (Below.refl w.heap.size w) _).trans b3
              have s3 := (Bs.of_own hown3).2
              obtain ⟨g3, o3, rfl, hlt3, hc3⟩ := s3.at_ (k := 0) (by rw [Fr.part_length]; omega)
              have hpp : 4 ≤ (Fr.part x6 X).length := by rw [Fr.part_length]; omega
              replace hc3 := Lib.hid hc3
              replace bX := Lib.hid bX
              clear hown3 s3 b3 kc2
              go_wp2_with fail
              go_loopw [19] (fun v19 wr => ∃ k : Nat, v19 = .int .i64 (k : Int) ∧ k ≤ 4 ∧ (∀ j, j < k → (Fr.part x6 X)[j]? = l[t + j]?) ∧ Below w3.heap.size w3 wr) (fun v19 _ => 4 - (intOf v19).toNat)
              case atStart => exact ⟨0, rfl, by omega, fun j h => absurd h (by omega), Below.refl _ _⟩
              case round =>
                obtain ⟨k, rfl, hk, hP, hBr⟩ := hrel
                by_cases hk4 : k < 4
                · obtain ⟨x, hx⟩ : ∃ x, (Fr.part x6 X)[k]'(by omega) = x := ⟨_, rfl⟩
                  obtain ⟨y, hy⟩ : ∃ y, l[t + k]'(by rw [hl.out]; omega) = y := ⟨_, rfl⟩
                  have ca : wr.cell? ⟨g3, o3 + k, none⟩ = some (.int .u8 (x.toNat : Int)) := by rw [← hx]; exact (hBr.cell (p := ⟨g3, o3 + k, none⟩) hlt3).trans (hc3.out k (by omega))
                  have cb : wr.cell? ⟨b, off + (t + k), none⟩ = some (.int .u8 (y.toNat : Int)) := by rw [← hy]; exact (hBr.cell (p := ⟨b, off + (t + k), none⟩) (Nat.lt_of_lt_of_le hblt hB3.size)).trans ((hB3.cell (p := ⟨b, off + (t + k), none⟩) hblt).trans (hc.out (t + k) (by rw [hl.out]; omega)))
                  have dk : decide ((k : Int) < 4) = true := decide_eq_true (by omega)
                  obtain ⟨tk, htk⟩ : ∃ tk, t + k = tk := ⟨_, rfl⟩
                  have htki : (t : Int) + (k : Int) = (tk : Int) := by omega
                  rw [htk] at cb
                  replace htk := Lib.hid htk
                  have hx' : (Fr.part x6 X)[k]? = some x := by rw [← hx]; exact List.getElem?_eq_getElem _
                  have hy' : l[t + k]? = some y := by rw [← hy]; exact List.getElem?_eq_getElem _
                  replace hx' := Lib.hid hx'
                  replace hy' := Lib.hid hy'
                  replace hP := Lib.hid hP
                  clear hx hy
                  by_cases hxy : x = y
                  · have hne : ((x.toNat : Int) != (y.toNat : Int)) = false := by rw [hxy]; simp
                    replace hxy := Lib.hid hxy
                    go_wp2_with fail
                    go_quiet (fail)
                    all_goals
                      go_wp2_with fail
                      go_roundw
                      case rel =>
                        refine ⟨k + 1, by go_num, by omega, fun j hj => ?_, below_drewN hBr _⟩
                        rcases Nat.lt_succ_iff_lt_or_eq.1 hj with h | rfl
                        · exact hP.out j h
                        · rw [hx'.out, hy'.out, hxy.out]
                      case measure => simp [intOf]; omega
                  · have hne : ((x.toNat : Int) != (y.toNat : Int)) = true := by
                      have : x.toNat ≠ y.toNat := fun e => hxy (UInt8.toNat_inj.1 e)
                      simp; omega
                    have hrn := hr.out
                    rw [if_pos (fun e => hxy (by
                      have h1 : (Fr.part x6 X)[k]? = (Fr.le4 (Fr.sumT (Fr.tail3 x6 m) X))[k]? := by rw [hpl.out, List.getElem?_append_left (by rw [Fr.le4_length]; exact hk4)]
                      rw [e, hsl.out k hk4, hx'.out, hy'.out] at h1
                      exact Option.some.inj h1))] at hrn
                    replace hrn := Lib.hid hrn
                    replace hxy := Lib.hid hxy
                    go_wp2_with fail
                    go_quiet (fail)
                    all_goals
                      go_wp2
                      (try simp only [Exit.inBlock, Exit.then]); refine bodyPost_ret (results_tmp4 rfl _ _ _) rfl ?_
                      exact oneP_inl hrn.out (below_drewN (hB3.trans (hBr.mono hB3.size)) _)
                · have hk' : k = 4 := by omega
                  subst hk'
                  have hrn := hr.out
                  rw [if_neg (fun h => h (by
                    apply List.ext_getElem?
                    intro j
                    rcases Nat.lt_or_ge j 4 with hj | hj
                    · have h1 : (Fr.part x6 X)[j]? = (Fr.le4 (Fr.sumT (Fr.tail3 x6 m) X))[j]? := by rw [hpl.out, List.getElem?_append_left (by rw [Fr.le4_length]; exact hj)]
                      rw [← h1, hP j hj, hsl.out j hj]
                    · rw [List.getElem?_eq_none (by rw [Fr.le4_length]; exact hj), List.getElem?_eq_none (by unfold Fr.sub; rw [List.length_take]; omega)]))] at hrn
                  replace hrn := Lib.hid hrn
                  clear hP
                  go_wp2_with fail
                  (try simp only [Exit.inBlock, Exit.then]); refine bodyPost_ret (results_tmp4 rfl _ _ _) rfl ?_
                  exact oneP_inr (kv := 1) (by rw [k1]; rfl) hrn.out (hB3.trans (hBr.mono hB3.size)) hXl.out bX.out
          · have hf : Fr.fits x6 m false rm 0 = true := by unfold Fr.fits; simp [*] <;> omega
            have b1 : ((x6.toNat : Int) == 1) = true := kbT (y := 1) rfl k1
            have b2 : ((x6.toNat : Int) == 2) = false := kbF (y := 2) rfl k2
            have b3 : ((x6.toNat : Int) == 3) = false := kbF (y := 3) rfl k3
            have b4 : ((x6.toNat : Int) == 4) = false := kbF (y := 4) rfl k4
            have rgt : decide ((rm : Int) < (m : Int)) = false := decide_eq_false (by omega)
            have rlt : decide ((m : Int) < (rm : Int)) = false := decide_eq_false (by omega)
            have rz : ((m : Int) == 0) = false := by simp; omega
            have rov : decide ((65536 : Int) < 0 + (m : Int)) = false := decide_eq_false (by omega)
            have hr := hres.out
            rw [if_neg (by rw [hf]; simp)] at hr
            clear hf hres
            have ht7i : (t : Int) + 7 = ((t + 7 : Nat) : Int) := by omega
            obtain ⟨t7, ht7⟩ : ∃ t7, t + 7 = t7 := ⟨_, rfl⟩
            rw [ht7] at hr ht7i
            obtain ⟨u, hu⟩ : ∃ u, t7 + m = u := ⟨_, rfl⟩
            have hui : (t7 : Int) + (m : Int) = (u : Int) := by omega
            rw [hu] at hr
            have e1' : decide ((n : Int) < (t7 : Int)) = false := decide_eq_false (by omega)
            by_cases hs2 : n < u
            · rw [if_pos hs2] at hr
              have e2 : decide ((n : Int) < (u : Int)) = true := decide_eq_true (by omega)
              replace hr := Lib.hid hr
              clear ht7 hu
              go_wp2_with fail
              go_quiet (fail)
              all_goals
                go_wp2
                (try simp only [Exit.inBlock, Exit.then]); refine bodyPost_ret (results_tmp4 rfl _ _ _) rfl ?_
                exact oneP_inl hr.out (below_drewN (Below.refl _ _) _)
            · rw [if_neg hs2] at hr
              have e2 : decide ((n : Int) < (u : Int)) = false := decide_eq_false (by omega)
              have hX6 := tail3_at l t x6 m (by rw [hl.out]; omega) hx6.out hm.out
              rw [hX6] at hr
              obtain ⟨X, hX⟩ : ∃ X, Fr.sub l t7 m = X := ⟨_, rfl⟩
              have hXl : X.length = m := by rw [← hX]; exact Fr.sub_length _ _ _ (by rw [hl.out]; omega)
              have bX : Bs w (cutA (some ⟨b, off, none⟩) c t7) X := by rw [← hX]; exact hb.cutA (by rw [hl.out]; omega) (by rw [hl.out]; exact hnc)
              have kc2 := run_cut (P := Tryd.prog) Tryd.underlying22 u8sz (some ⟨b, off, none⟩) n c t7 u (by omega) (by omega)
              have hum : u - t7 = m := by omega
              rw [hum] at kc2
              rw [hX] at hr
              have hpl : Fr.part x6 X = Fr.le4 (Fr.sumT (Fr.tail3 x6 m) X) ++ (Fr.tail3 x6 m ++ X) := by unfold Fr.part Fr.head; rw [hXl, List.append_assoc]
              replace hr := Lib.hid hr
              replace hpl := Lib.hid hpl
              have hsl : ∀ j, j < 4 → (Fr.sub l t 4)[j]? = l[t + j]? := fun j hj => by unfold Fr.sub; rw [List.getElem?_take, if_pos hj, List.getElem?_drop]
              have htn : t + 4 ≤ n := by omega
              replace hsl := Lib.hid hsl
              replace hXl := Lib.hid hXl
              clear ht7 hu hX6 hX hum
              go_wp2_with fail
              go_quiet (fail)
              go_wp2_with fail
              refine (refPart_at _ x6 1 (by rw [k1]; rfl) _ m _ X hXl.out (by omega) (bX.drewN _)).mono ?_
              rintro _ w3 ⟨A3, c3, rfl, hown3, b3⟩
              have hB3 : Below w.heap.size w w3 := (below_drewN (Below.refl w.heap.size w) _).trans b3
              have s3 := (Bs.of_own hown3).2
              obtain ⟨g3, o3, rfl, hlt3, hc3⟩ := s3.at_ (k := 0) (by rw [Fr.part_length]; omega)
              have hpp : 4 ≤ (Fr.part x6 X).length := by rw [Fr.part_length]; omega
              replace hc3 := Lib.hid hc3
              replace bX := Lib.hid bX
              clear hown3 s3 b3 kc2
              go_wp2_with fail
              go_loopw [19] (fun v19 wr => ∃ k : Nat, v19 = .int .i64 (k : Int) ∧ k ≤ 4 ∧ (∀ j, j < k → (Fr.part x6 X)[j]? = l[t + j]?) ∧ Below w3.heap.size w3 wr) (fun v19 _ => 4 - (intOf v19).toNat)
              case atStart => exact ⟨0, rfl, by omega, fun j h => absurd h (by omega), Below.refl _ _⟩
              case round =>
                obtain ⟨k, rfl, hk, hP, hBr⟩ := hrel
                by_cases hk4 : k < 4
                · obtain ⟨x, hx⟩ : ∃ x, (Fr.part x6 X)[k]'(by omega) = x := ⟨_, rfl⟩
                  obtain ⟨y, hy⟩ : ∃ y, l[t + k]'(by rw [hl.out]; omega) = y := ⟨_, rfl⟩
                  have ca : wr.cell? ⟨g3, o3 + k, none⟩ = some (.int .u8 (x.toNat : Int)) := by rw [← hx]; exact (hBr.cell (p := ⟨g3, o3 + k, none⟩) hlt3).trans (hc3.out k (by omega))
                  have cb : wr.cell? ⟨b, off + (t + k), none⟩ = some (.int .u8 (y.toNat : Int)) := by rw [← hy]; exact (hBr.cell (p := ⟨b, off + (t + k), none⟩) (Nat.lt_of_lt_of_le hblt hB3.size)).trans ((hB3.cell (p := ⟨b, off + (t + k), none⟩) hblt).trans (hc.out (t + k) (by rw [hl.out]; omega)))
                  have dk : decide ((k : Int) < 4) = true := decide_eq_true (by omega)
                  obtain ⟨tk, htk⟩ : ∃ tk, t + k = tk := ⟨_, rfl⟩
                  have htki : (t : Int) + (k : Int) = (tk : Int) := by omega
                  rw [htk] at cb
                  replace htk := Lib.hid htk
                  have hx' : (Fr.part x6 X)[k]? = some x := by rw [← hx]; exact List.getElem?_eq_getElem _
                  have hy' : l[t + k]? = some y := by rw [← hy]; exact List.getElem?_eq_getElem _
                  replace hx' := Lib.hid hx'
                  replace hy' := Lib.hid hy'
                  replace hP := Lib.hid hP
                  clear hx hy
                  by_cases hxy : x = y
                  · have hne : ((x.toNat : Int) != (y.toNat : Int)) = false := by rw [hxy]; simp
                    replace hxy := Lib.hid hxy
                    go_wp2_with fail
                    go_quiet (fail)
                    all_goals
                      go_wp2_with fail
                      go_roundw
                      case rel =>
                        refine ⟨k + 1, by go_num, by omega, fun j hj => ?_, below_drewN hBr _⟩
                        rcases Nat.lt_succ_iff_lt_or_eq.1 hj with h | rfl
                        · exact hP.out j h
                        · rw [hx'.out, hy'.out, hxy.out]
                      case measure => simp [intOf]; omega
                  · have hne : ((x.toNat : Int) != (y.toNat : Int)) = true := by
                      have : x.toNat ≠ y.toNat := fun e => hxy (UInt8.toNat_inj.1 e)
                      simp; omega
                    have hrn := hr.out
                    rw [if_pos (fun e => hxy (by
                      have h1 : (Fr.part x6 X)[k]? = (Fr.le4 (Fr.sumT (Fr.tail3 x6 m) X))[k]? := by rw [hpl.out, List.getElem?_append_left (by rw [Fr.le4_length]; exact hk4)]
                      rw [e, hsl.out k hk4, hx'.out, hy'.out] at h1
                      exact Option.some.inj h1))] at hrn
                    replace hrn := Lib.hid hrn
                    replace hxy := Lib.hid hxy
                    go_wp2_with fail
                    go_quiet (fail)
                    all_goals
                      go_wp2
                      (try simp only [Exit.inBlock, Exit.then]); refine bodyPost_ret (results_tmp4 rfl _ _ _) rfl ?_
                      exact oneP_inl hrn.out (below_drewN (hB3.trans (hBr.mono hB3.size)) _)
                · have hk' : k = 4 := by omega
                  subst hk'
                  have hrn := hr.out
                  rw [if_neg (fun h => h (by
                    apply List.ext_getElem?
                    intro j
                    rcases Nat.lt_or_ge j 4 with hj | hj
                    · have h1 : (Fr.part x6 X)[j]? = (Fr.le4 (Fr.sumT (Fr.tail3 x6 m) X))[j]? := by rw [hpl.out, List.getElem?_append_left (by rw [Fr.le4_length]; exact hj)]
                      rw [← h1, hP j hj, hsl.out j hj]
                    · rw [List.getElem?_eq_none (by rw [Fr.le4_length]; exact hj), List.getElem?_eq_none (by unfold Fr.sub; rw [List.length_take]; omega)]))] at hrn
                  replace hrn := Lib.hid hrn
                  clear hP
                  go_wp2_with fail
                  (try simp only [Exit.inBlock, Exit.then]); refine bodyPost_ret (results_tmp4 rfl _ _ _) rfl ?_
                  exact oneP_inr (kv := 1) (by rw [k1]; rfl) hrn.out (hB3.trans (hBr.mono hB3.size)) hXl.out bX.out
    · by_cases k2 : x6 = 2
      · have k3 : ¬ x6 = 3 := by rw [k2]; decide
        have k4 : ¬ x6 = 4 := by rw [k2]; decide
        by_cases hgt0 : rm < m
        · have hf : Fr.fits x6 m false rm 0 = false := by unfold Fr.fits; simp [*] <;> omega
          have b1 : ((x6.toNat : Int) == 1) = false := kbF (y := 1) rfl k1
          have b2 : ((x6.toNat : Int) == 2) = true := kbT (y := 2) rfl k2
          have b3 : ((x6.toNat : Int) == 3) = false := kbF (y := 3) rfl k3
          have b4 : ((x6.toNat : Int) == 4) = false := kbF (y := 4) rfl k4
          have rgt : decide ((rm : Int) < (m : Int)) = true := decide_eq_true (by omega)
          have hr := hres.out
          rw [if_pos hf] at hr
          replace hr := Lib.hid hr
          clear hf hres
          go_wp2_with fail
          go_quiet (fail)
          all_goals
            go_wp2
            (try simp only [Exit.inBlock, Exit.then]); refine bodyPost_ret (results_tmp4 rfl _ _ _) rfl ?_
            exact oneP_inl hr.out (below_drewN (Below.refl _ _) _)
        · by_cases hlt0 : m < rm
          · have hf : Fr.fits x6 m false rm 0 = false := by unfold Fr.fits; simp [*] <;> omega
            have b1 : ((x6.toNat : Int) == 1) = false := kbF (y := 1) rfl k1
            have b2 : ((x6.toNat : Int) == 2) = true := kbT (y := 2) rfl k2
            have b3 : ((x6.toNat : Int) == 3) = false := kbF (y := 3) rfl k3
            have b4 : ((x6.toNat : Int) == 4) = false := kbF (y := 4) rfl k4
            have rgt : decide ((rm : Int) < (m : Int)) = false := decide_eq_false (by omega)
            have rlt : decide ((m : Int) < (rm : Int)) = true := decide_eq_true (by omega)
            have hr := hres.out
            rw [if_pos hf] at hr
            replace hr := Lib.hid hr
            clear hf hres
            go_wp2_with fail
            go_quiet (fail)
            all_goals
              go_wp2
              (try simp only [Exit.inBlock, Exit.then]); refine bodyPost_ret (results_tmp4 rfl _ _ _) rfl ?_
              exact oneP_inl hr.out (below_drewN (Below.refl _ _) _)
          · by_cases hz0 : m = 0
            · have hf : Fr.fits x6 m false rm 0 = true := by unfold Fr.fits; simp [*] <;> omega
              have b1 : ((x6.toNat : Int) == 1) = false := kbF (y := 1) rfl k1
              have b2 : ((x6.toNat : Int) == 2) = true := kbT (y := 2) rfl k2
              have b3 : ((x6.toNat : Int) == 3) = false := kbF (y := 3) rfl k3
              have b4 : ((x6.toNat : Int) == 4) = false := kbF (y := 4) rfl k4
              have rgt : decide ((rm : Int) < (m : Int)) = false := decide_eq_false (by omega)
              have rlt : decide ((m : Int) < (rm : Int)) = false := decide_eq_false (by omega)
              have rz : ((m : Int) == 0) = true := by simp; omega
              have rov : decide ((65536 : Int) < 0 + (m : Int)) = false := decide_eq_false (by omega)
              replace hz0 := Lib.hid hz0
              have hr := hres.out
              rw [if_neg (by rw [hf]; simp)] at hr
              clear hf hres
              have ht7i : (t : Int) + 7 = ((t + 7 : Nat) : Int) := by omega
              obtain ⟨t7, ht7⟩ : ∃ t7, t + 7 = t7 := ⟨_, rfl⟩
              rw [ht7] at hr ht7i
              obtain ⟨u, hu⟩ : ∃ u, t7 + m = u := ⟨_, rfl⟩
              have hui : (t7 : Int) + (m : Int) = (u : Int) := by omega
              rw [hu] at hr
              have e1' : decide ((n : Int) < (t7 : Int)) = false := decide_eq_false (by omega)
              by_cases hs2 : n < u
              · rw [if_pos hs2] at hr
                have e2 : decide ((n : Int) < (u : Int)) = true := decide_eq_true (by omega)
                replace hr := Lib.hid hr
                clear ht7 hu
                go_wp2_with fail
                go_quiet (fail)
                all_goals
                  go_wp2
                  (try simp only [Exit.inBlock, Exit.then]); refine bodyPost_ret (results_tmp4 rfl _ _ _) rfl ?_
                  exact oneP_inl hr.out (below_drewN (Below.refl _ _) _)
              · rw [if_neg hs2] at hr
                have e2 : decide ((n : Int) < (u : Int)) = false := decide_eq_false (by omega)
                have hX6 := tail3_at l t x6 m (by rw [hl.out]; omega) hx6.out hm.out
                rw [hX6] at hr
                obtain ⟨X, hX⟩ : ∃ X, Fr.sub l t7 m = X := ⟨_, rfl⟩
                have hXl : X.length = m := by rw [← hX]; exact Fr.sub_length _ _ _ (by rw [hl.out]; omega)
                have bX : Bs w (cutA (some ⟨b, off, none⟩) c t7) X := by rw [← hX]; exact hb.cutA (by rw [hl.out]; omega) (by rw [hl.out]; exact hnc)
                have kc2 := run_cut (P := Tryd.prog) Tryd.underlying22 u8sz (some ⟨b, off, none⟩) n c t7 u (by omega) (by omega)
                have hum : u - t7 = m := by omega
                rw [hum] at kc2
                rw [hX] at hr
                have hpl : Fr.part x6 X = Fr.le4 (Fr.sumT (Fr.tail3 x6 m) X) ++ (Fr.tail3 x6 m ++ X) := by unfold Fr.part Fr.head; rw [hXl, List.append_assoc]
                replace hr := Lib.hid hr
                replace hpl := Lib.hid hpl
                have hsl : ∀ j, j < 4 → (Fr.sub l t 4)[j]? = l[t + j]? := fun j hj => by unfold Fr.sub; rw [List.getElem?_take, if_pos hj, List.getElem?_drop]
                have htn : t + 4 ≤ n := by omega
                replace hsl := Lib.hid hsl
                replace hXl := Lib.hid hXl
                clear ht7 hu hX6 hX hum
                go_wp2_with fail
                go_quiet (fail)
                go_wp2_with fail
                refine (refPart_at _ x6 2 (by rw [k2]; rfl) _ m _ X hXl.out (by omega) (bX.drewN _)).mono ?_
                rintro _ w3 ⟨A3, c3, rfl, hown3, b3⟩
                have hB3 : Below w.heap.size w w3 := (below_drewN (Below.refl w.heap.size w) _).trans b3
                have s3 := (Bs.of_own hown3).2
                obtain ⟨g3, o3, rfl, hlt3, hc3⟩ := s3.at_ (k := 0) (by rw [Fr.part_length]; omega)
                have hpp : 4 ≤ (Fr.part x6 X).length := by rw [Fr.part_length]; omega
                replace hc3 := Lib.hid hc3
                replace bX := Lib.hid bX
                clear hown3 s3 b3 kc2
                go_wp2_with fail
                go_loopw [19] (fun v19 wr => ∃ k : Nat, v19 = .int .i64 (k : Int) ∧ k ≤ 4 ∧ (∀ j, j < k → (Fr.part x6 X)[j]? = l[t + j]?) ∧ Below w3.heap.size w3 wr) (fun v19 _ => 4 - (intOf v19).toNat)
                case atStart => exact ⟨0, rfl, by omega, fun j h => absurd h (by omega), Below.refl _ _⟩
                case round =>
                  obtain ⟨k, rfl, hk, hP, hBr⟩ := hrel
                  by_cases hk4 : k < 4
                  · obtain ⟨x, hx⟩ : ∃ x, (Fr.part x6 X)[k]'(by omega) = x := ⟨_, rfl⟩
                    obtain ⟨y, hy⟩ : ∃ y, l[t + k]'(by rw [hl.out]; omega) = y := ⟨_, rfl⟩
                    have ca : wr.cell? ⟨g3, o3 + k, none⟩ = some (.int .u8 (x.toNat : Int)) := by rw [← hx]; exact (hBr.cell (p := ⟨g3, o3 + k, none⟩) hlt3).trans (hc3.out k (by omega))
                    have cb : wr.cell? ⟨b, off + (t + k), none⟩ = some (.int .u8 (y.toNat : Int)) := by rw [← hy]; exact (hBr.cell (p := ⟨b, off + (t + k), none⟩) (Nat.lt_of_lt_of_le hblt hB3.size)).trans ((hB3.cell (p := ⟨b, off + (t + k), none⟩) hblt).trans (hc.out (t + k) (by rw [hl.out]; omega)))
                    have dk : decide ((k : Int) < 4) = true := decide_eq_true (by omega)
                    obtain ⟨tk, htk⟩ : ∃ tk, t + k = tk := ⟨_, rfl⟩
                    have htki : (t : Int) + (k : Int) = (tk : Int) := by omega
                    rw [htk] at cb
                    replace htk := Lib.hid htk
                    have hx' : (Fr.part x6 X)[k]? = some x := by rw [← hx]; exact List.getElem?_eq_getElem _
                    have hy' : l[t + k]? = some y := by rw [← hy]; exact List.getElem?_eq_getElem _
                    replace hx' := Lib.hid hx'
                    replace hy' := Lib.hid hy'
                    replace hP := Lib.hid hP
                    clear hx hy
                    by_cases hxy : x = y
                    · have hne : ((x.toNat : Int) != (y.toNat : Int)) = false := by rw [hxy]; simp
                      replace hxy := Lib.hid hxy
                      go_wp2_with fail
                      go_quiet (fail)
                      all_goals
                        go_wp2_with fail
                        go_roundw
                        case rel =>
                          refine ⟨k + 1, by go_num, by omega, fun j hj => ?_, below_drewN hBr _⟩
                          rcases Nat.lt_succ_iff_lt_or_eq.1 hj with h | rfl
                          · exact hP.out j h
                          · rw [hx'.out, hy'.out, hxy.out]
                        case measure => simp [intOf]; omega
                    · have hne : ((x.toNat : Int) != (y.toNat : Int)) = true := by
                        have : x.toNat ≠ y.toNat := fun e => hxy (UInt8.toNat_inj.1 e)
                        simp; omega
                      have hrn := hr.out
                      rw [if_pos (fun e => hxy (by
                        have h1 : (Fr.part x6 X)[k]? = (Fr.le4 (Fr.sumT (Fr.tail3 x6 m) X))[k]? := by rw [hpl.out, List.getElem?_append_left (by rw [Fr.le4_length]; exact hk4)]
                        rw [e, hsl.out k hk4, hx'.out, hy'.out] at h1
                        exact Option.some.inj h1))] at hrn
                      replace hrn := Lib.hid hrn
                      replace hxy := Lib.hid hxy
                      go_wp2_with fail
                      go_quiet (fail)
                      all_goals
                        go_wp2
                        (try simp only [Exit.inBlock, Exit.then]); refine bodyPost_ret (results_tmp4 rfl _ _ _) rfl ?_
                        exact oneP_inl hrn.out (below_drewN (hB3.trans (hBr.mono hB3.size)) _)
                  · have hk' : k = 4 := by omega
                    subst hk'
                    have hrn := hr.out
                    rw [if_neg (fun h => h (by
                      apply List.ext_getElem?
                      intro j
                      rcases Nat.lt_or_ge j 4 with hj | hj
                      · have h1 : (Fr.part x6 X)[j]? = (Fr.le4 (Fr.sumT (Fr.tail3 x6 m) X))[j]? := by rw [hpl.out, List.getElem?_append_left (by rw [Fr.le4_length]; exact hj)]
                        rw [← h1, hP j hj, hsl.out j hj]
                      · rw [List.getElem?_eq_none (by rw [Fr.le4_length]; exact hj), List.getElem?_eq_none (by unfold Fr.sub; rw [List.length_take]; omega)]))] at hrn
                    replace hrn := Lib.hid hrn
                    clear hP
                    go_wp2_with fail
                    (try simp only [Exit.inBlock, Exit.then]); refine bodyPost_ret (results_tmp4 rfl _ _ _) rfl ?_
                    exact oneP_inr (kv := 2) (by rw [k2]; rfl) hrn.out (hB3.trans (hBr.mono hB3.size)) hXl.out bX.out
            · have hf : Fr.fits x6 m false rm 0 = true := by unfold Fr.fits; simp [*] <;> omega
              have b1 : ((x6.toNat : Int) == 1) = false := kbF (y := 1) rfl k1
              have b2 : ((x6.toNat : Int) == 2) = true := kbT (y := 2) rfl k2
              have b3 : ((x6.toNat : Int) == 3) = false := kbF (y := 3) rfl k3
              have b4 : ((x6.toNat : Int) == 4) = false := kbF (y := 4) rfl k4
              have rgt : decide ((rm : Int) < (m : Int)) = false := decide_eq_false (by omega)
              have rlt : decide ((m : Int) < (rm : Int)) = false := decide_eq_false (by omega)
              have rz : ((m : Int) == 0) = false := by simp; omega
              have rov : decide ((65536 : Int) < 0 + (m : Int)) = false := decide_eq_false (by omega)
              have hr := hres.out
              rw [if_neg (by rw [hf]; simp)] at hr
              clear hf hres
              have ht7i : (t : Int) + 7 = ((t + 7 : Nat) : Int) := by omega
              obtain ⟨t7, ht7⟩ : ∃ t7, t + 7 = t7 := ⟨_, rfl⟩
              rw [ht7] at hr ht7i
              obtain ⟨u, hu⟩ : ∃ u, t7 + m = u := ⟨_, rfl⟩
              have hui : (t7 : Int) + (m : Int) = (u : Int) := by omega
              rw [hu] at hr
              have e1' : decide ((n : Int) < (t7 : Int)) = false := decide_eq_false (by omega)
              by_cases hs2 : n < u
              · rw [if_pos hs2] at hr
                have e2 : decide ((n : Int) < (u : Int)) = true := decide_eq_true (by omega)
                replace hr := Lib.hid hr
                clear ht7 hu
                go_wp2_with fail
                go_quiet (fail)
                all_goals
                  go_wp2
                  (try simp only [Exit.inBlock, Exit.then]); refine bodyPost_ret (results_tmp4 rfl _ _ _) rfl ?_
                  exact oneP_inl hr.out (below_drewN (Below.refl _ _) _)
              · rw [if_neg hs2] at hr
                have e2 : decide ((n : Int) < (u : Int)) = false := decide_eq_false (by omega)
                have hX6 := tail3_at l t x6 m (by rw [hl.out]; omega) hx6.out hm.out
                rw [hX6] at hr
                obtain ⟨X, hX⟩ : ∃ X, Fr.sub l t7 m = X := ⟨_, rfl⟩
                have hXl : X.length = m := by rw [← hX]; exact Fr.sub_length _ _ _ (by rw [hl.out]; omega)
                have bX : Bs w (cutA (some ⟨b, off, none⟩) c t7) X := by rw [← hX]; exact hb.cutA (by rw [hl.out]; omega) (by rw [hl.out]; exact hnc)
                have kc2 := run_cut (P := Tryd.prog) Tryd.underlying22 u8sz (some ⟨b, off, none⟩) n c t7 u (by omega) (by omega)
                have hum : u - t7 = m := by omega
                rw [hum] at kc2
                rw [hX] at hr
                have hpl : Fr.part x6 X = Fr.le4 (Fr.sumT (Fr.tail3 x6 m) X) ++ (Fr.tail3 x6 m ++ X) := by unfold Fr.part Fr.head; rw [hXl, List.append_assoc]
                replace hr := Lib.hid hr
                replace hpl := Lib.hid hpl
                have hsl : ∀ j, j < 4 → (Fr.sub l t 4)[j]? = l[t + j]? := fun j hj => by unfold Fr.sub; rw [List.getElem?_take, if_pos hj, List.getElem?_drop]
                have htn : t + 4 ≤ n := by omega
                replace hsl := Lib.hid hsl
                replace hXl := Lib.hid hXl
                clear ht7 hu hX6 hX hum
                go_wp2_with fail
                go_quiet (fail)
                go_wp2_with fail
                refine (refPart_at _ x6 2 (by rw [k2]; rfl) _ m _ X hXl.out (by omega) (bX.drewN _)).mono ?_
                rintro _ w3 ⟨A3, c3, rfl, hown3, b3⟩
                have hB3 : Below w.heap.size w w3 := (below_drewN (Below.refl w.heap.size w) _).trans b3
                have s3 := (Bs.of_own hown3).2
                obtain ⟨g3, o3, rfl, hlt3, hc3⟩ := s3.at_ (k := 0) (by rw [Fr.part_length]; omega)
                have hpp : 4 ≤ (Fr.part x6 X).length := by rw [Fr.part_length]; omega
                replace hc3 := Lib.hid hc3
                replace bX := Lib.hid bX
                clear hown3 s3 b3 kc2
                go_wp2_with fail
                go_loopw [19] (fun v19 wr => ∃ k : Nat, v19 = .int .i64 (k : Int) ∧ k ≤ 4 ∧ (∀ j, j < k → (Fr.part x6 X)[j]? = l[t + j]?) ∧ Below w3.heap.size w3 wr) (fun v19 _ => 4 - (intOf v19).toNat)
                case atStart => exact ⟨0, rfl, by omega, fun j h => absurd h (by omega), Below.refl _ _⟩
                case round =>
                  obtain ⟨k, rfl, hk, hP, hBr⟩ := hrel
                  by_cases hk4 : k < 4
                  · obtain ⟨x, hx⟩ : ∃ x, (Fr.part x6 X)[k]'(by omega) = x := ⟨_, rfl⟩
                    obtain ⟨y, hy⟩ : ∃ y, l[t + k]'(by rw [hl.out]; omega) = y := ⟨_, rfl⟩
                    have ca : wr.cell? ⟨g3, o3 + k, none⟩ = some (.int .u8 (x.toNat : Int)) := by rw [← hx]; exact (hBr.cell (p := ⟨g3, o3 + k, none⟩) hlt3).trans (hc3.out k (by omega))
                    have cb : wr.cell? ⟨b, off + (t + k), none⟩ = some (.int .u8 (y.toNat : Int)) := by rw [← hy]; exact (hBr.cell (p := ⟨b, off + (t + k), none⟩) (Nat.lt_of_lt_of_le hblt hB3.size)).trans ((hB3.cell (p := ⟨b, off + (t + k), none⟩) hblt).trans (hc.out (t + k) (by rw [hl.out]; omega)))
                    have dk : decide ((k : Int) < 4) = true := decide_eq_true (by omega)
                    obtain ⟨tk, htk⟩ : ∃ tk, t + k = tk := ⟨_, rfl⟩
                    have htki : (t : Int) + (k : Int) = (tk : Int) := by omega
                    rw [htk] at cb
                    replace htk := Lib.hid htk
                    have hx' : (Fr.part x6 X)[k]? = some x := by rw [← hx]; exact List.getElem?_eq_getElem _
                    have hy' : l[t + k]? = some y := by rw [← hy]; exact List.getElem?_eq_getElem _
                    replace hx' := Lib.hid hx'
                    replace hy' := Lib.hid hy'
                    replace hP := Lib.hid hP
                    clear hx hy
                    by_cases hxy : x = y
                    · have hne : ((x.toNat : Int) != (y.toNat : Int)) = false := by rw [hxy]; simp
                      replace hxy := Lib.hid hxy
                      go_wp2_with fail
                      go_quiet (fail)
                      all_goals
                        go_wp2_with fail
                        go_roundw
                        case rel =>
                          refine ⟨k + 1, by go_num, by omega, fun j hj => ?_, below_drewN hBr _⟩
                          rcases Nat.lt_succ_iff_lt_or_eq.1 hj with h | rfl
                          · exact hP.out j h
                          · rw [hx'.out, hy'.out, hxy.out]
                        case measure => simp [intOf]; omega
                    · have hne : ((x.toNat : Int) != (y.toNat : Int)) = true := by
                        have : x.toNat ≠ y.toNat := fun e => hxy (UInt8.toNat_inj.1 e)
                        simp; omega
                      have hrn := hr.out
                      rw [if_pos (fun e => hxy (by
                        have h1 : (Fr.part x6 X)[k]? = (Fr.le4 (Fr.sumT (Fr.tail3 x6 m) X))[k]? := by rw [hpl.out, List.getElem?_append_left (by rw [Fr.le4_length]; exact hk4)]
                        rw [e, hsl.out k hk4, hx'.out, hy'.out] at h1
                        exact Option.some.inj h1))] at hrn
                      replace hrn := Lib.hid hrn
                      replace hxy := Lib.hid hxy
                      go_wp2_with fail
                      go_quiet (fail)
                      all_goals
                        go_wp2
                        (try simp only [Exit.inBlock, Exit.then]); refine bodyPost_ret (results_tmp4 rfl _ _ _) rfl ?_
                        exact oneP_inl hrn.out (below_drewN (hB3.trans (hBr.mono hB3.size)) _)
                  · have hk' : k = 4 := by omega
                    subst hk'
                    have hrn := hr.out
                    rw [if_neg (fun h => h (by
                      apply List.ext_getElem?
                      intro j
                      rcases Nat.lt_or_ge j 4 with hj | hj
                      · have h1 : (Fr.part x6 X)[j]? = (Fr.le4 (Fr.sumT (Fr.tail3 x6 m) X))[j]? := by rw [hpl.out, List.getElem?_append_left (by rw [Fr.le4_length]; exact hj)]
                        rw [← h1, hP j hj, hsl.out j hj]
                      · rw [List.getElem?_eq_none (by rw [Fr.le4_length]; exact hj), List.getElem?_eq_none (by unfold Fr.sub; rw [List.length_take]; omega)]))] at hrn
                    replace hrn := Lib.hid hrn
                    clear hP
                    go_wp2_with fail
                    (try simp only [Exit.inBlock, Exit.then]); refine bodyPost_ret (results_tmp4 rfl _ _ _) rfl ?_
                    exact oneP_inr (kv := 2) (by rw [k2]; rfl) hrn.out (hB3.trans (hBr.mono hB3.size)) hXl.out bX.out
      · by_cases k3 : x6 = 3
        · have k4 : ¬ x6 = 4 := by rw [k3]; decide
          have hf : Fr.fits x6 m false rm 0 = false := by unfold Fr.fits; simp [*] <;> omega
          have b1 : ((x6.toNat : Int) == 1) = false := kbF (y := 1) rfl k1
          have b2 : ((x6.toNat : Int) == 2) = false := kbF (y := 2) rfl k2
          have b3 : ((x6.toNat : Int) == 3) = true := kbT (y := 3) rfl k3
          have b4 : ((x6.toNat : Int) == 4) = false := kbF (y := 4) rfl k4
          have hr := hres.out
          rw [if_pos hf] at hr
          replace hr := Lib.hid hr
          clear hf hres
          go_wp2_with fail
          go_quiet (fail)
          all_goals
            go_wp2
            (try simp only [Exit.inBlock, Exit.then]); refine bodyPost_ret (results_tmp4 rfl _ _ _) rfl ?_
            exact oneP_inl hr.out (below_drewN (Below.refl _ _) _)
        · by_cases k4 : x6 = 4
          · have hf : Fr.fits x6 m false rm 0 = false := by unfold Fr.fits; simp [*] <;> omega
            have b1 : ((x6.toNat : Int) == 1) = false := kbF (y := 1) rfl k1
            have b2 : ((x6.toNat : Int) == 2) = false := kbF (y := 2) rfl k2
            have b3 : ((x6.toNat : Int) == 3) = false := kbF (y := 3) rfl k3
            have b4 : ((x6.toNat : Int) == 4) = true := kbT (y := 4) rfl k4
            have hr := hres.out
            rw [if_pos hf] at hr
            replace hr := Lib.hid hr
            clear hf hres
            go_wp2_with fail
            go_quiet (fail)
            all_goals
              go_wp2
              (try simp only [Exit.inBlock, Exit.then]); refine bodyPost_ret (results_tmp4 rfl _ _ _) rfl ?_
              exact oneP_inl hr.out (below_drewN (Below.refl _ _) _)
          · have hf : Fr.fits x6 m false rm 0 = false := by unfold Fr.fits; simp [*] <;> omega
            have b1 : ((x6.toNat : Int) == 1) = false := kbF (y := 1) rfl k1
            have b2 : ((x6.toNat : Int) == 2) = false := kbF (y := 2) rfl k2
            have b3 : ((x6.toNat : Int) == 3) = false := kbF (y := 3) rfl k3
            have b4 : ((x6.toNat : Int) == 4) = false := kbF (y := 4) rfl k4
            have hr := hres.out
            rw [if_pos hf] at hr
            replace hr := Lib.hid hr
            clear hf hres
            go_wp2_with fail
            go_quiet (fail)
            all_goals
              go_wp2
              (try simp only [Exit.inBlock, Exit.then]); refine bodyPost_ret (results_tmp4 rfl _ _ _) rfl ?_
              exact oneP_inl hr.out (below_drewN (Below.refl _ _) _)
  · by_cases k1 : x6 = 1
    · have k2 : ¬ x6 = 2 := by rw [k1]; decide
      have k3 : ¬ x6 = 3 := by rw [k1]; decide
      have k4 : ¬ x6 = 4 := by rw [k1]; decide
      have hf : Fr.fits x6 m true rm had = false := by unfold Fr.fits; simp [*] <;> omega
      have b1 : ((x6.toNat : Int) == 1) = true := kbT (y := 1) rfl k1
      have b2 : ((x6.toNat : Int) == 2) = false := kbF (y := 2) rfl k2
      have b3 : ((x6.toNat : Int) == 3) = false := kbF (y := 3) rfl k3
      have b4 : ((x6.toNat : Int) == 4) = false := kbF (y := 4) rfl k4
      have hr := hres.out
      rw [if_pos hf] at hr
      replace hr := Lib.hid hr
      clear hf hres
      go_wp2_with fail
      go_quiet (fail)
      all_goals
        go_wp2
        (try simp only [Exit.inBlock, Exit.then]); refine bodyPost_ret (results_tmp4 rfl _ _ _) rfl ?_
        exact oneP_inl hr.out (below_drewN (Below.refl _ _) _)
    · by_cases k2 : x6 = 2
      · have k3 : ¬ x6 = 3 := by rw [k2]; decide
        have k4 : ¬ x6 = 4 := by rw [k2]; decide
        have hf : Fr.fits x6 m true rm had = false := by unfold Fr.fits; simp [*] <;> omega
        have b1 : ((x6.toNat : Int) == 1) = false := kbF (y := 1) rfl k1
        have b2 : ((x6.toNat : Int) == 2) = true := kbT (y := 2) rfl k2
        have b3 : ((x6.toNat : Int) == 3) = false := kbF (y := 3) rfl k3
        have b4 : ((x6.toNat : Int) == 4) = false := kbF (y := 4) rfl k4
        have hr := hres.out
        rw [if_pos hf] at hr
        replace hr := Lib.hid hr
        clear hf hres
        go_wp2_with fail
        go_quiet (fail)
        all_goals
          go_wp2
          (try simp only [Exit.inBlock, Exit.then]); refine bodyPost_ret (results_tmp4 rfl _ _ _) rfl ?_
          exact oneP_inl hr.out (below_drewN (Below.refl _ _) _)
      · by_cases k3 : x6 = 3
        · have k4 : ¬ x6 = 4 := by rw [k3]; decide
          by_cases hgt0 : rm < m
          · have hf : Fr.fits x6 m true rm had = false := by unfold Fr.fits; simp [*] <;> omega
            have b1 : ((x6.toNat : Int) == 1) = false := kbF (y := 1) rfl k1
            have b2 : ((x6.toNat : Int) == 2) = false := kbF (y := 2) rfl k2
            have b3 : ((x6.toNat : Int) == 3) = true := kbT (y := 3) rfl k3
            have b4 : ((x6.toNat : Int) == 4) = false := kbF (y := 4) rfl k4
            have rgt : decide ((rm : Int) < (m : Int)) = true := decide_eq_true (by omega)
            have hr := hres.out
            rw [if_pos hf] at hr
            replace hr := Lib.hid hr
            clear hf hres
            go_wp2_with fail
            go_quiet (fail)
            all_goals
              go_wp2
              (try simp only [Exit.inBlock, Exit.then]); refine bodyPost_ret (results_tmp4 rfl _ _ _) rfl ?_
              exact oneP_inl hr.out (below_drewN (Below.refl _ _) _)
          · by_cases hlt0 : m < rm
            · have hf : Fr.fits x6 m true rm had = false := by unfold Fr.fits; simp [*] <;> omega
              have b1 : ((x6.toNat : Int) == 1) = false := kbF (y := 1) rfl k1
              have b2 : ((x6.toNat : Int) == 2) = false := kbF (y := 2) rfl k2
              have b3 : ((x6.toNat : Int) == 3) = true := kbT (y := 3) rfl k3
              have b4 : ((x6.toNat : Int) == 4) = false := kbF (y := 4) rfl k4
              have rgt : decide ((rm : Int) < (m : Int)) = false := decide_eq_false (by omega)
              have rlt : decide ((m : Int) < (rm : Int)) = true := decide_eq_true (by omega)
              have hr := hres.out
              rw [if_pos hf] at hr
              replace hr := Lib.hid hr
              clear hf hres
              go_wp2_with fail
              go_quiet (fail)
              all_goals
                go_wp2
                (try simp only [Exit.inBlock, Exit.then]); refine bodyPost_ret (results_tmp4 rfl _ _ _) rfl ?_
                exact oneP_inl hr.out (below_drewN (Below.refl _ _) _)
            · by_cases hz0 : m = 0
              · by_cases hov0 : 65536 < had + m
                · have hf : Fr.fits x6 m true rm had = false := by unfold Fr.fits; simp [*] <;> omega
                  have b1 : ((x6.toNat : Int) == 1) = false := kbF (y := 1) rfl k1
                  have b2 : ((x6.toNat : Int) == 2) = false := kbF (y := 2) rfl k2
                  have b3 : ((x6.toNat : Int) == 3) = true := kbT (y := 3) rfl k3
                  have b4 : ((x6.toNat : Int) == 4) = false := kbF (y := 4) rfl k4
                  have rgt : decide ((rm : Int) < (m : Int)) = false := decide_eq_false (by omega)
                  have rlt : decide ((m : Int) < (rm : Int)) = false := decide_eq_false (by omega)
                  have rz : ((m : Int) == 0) = true := by simp; omega
                  have rov : decide ((65536 : Int) < (had : Int) + (m : Int)) = true := decide_eq_true (by omega)
                  have hr := hres.out
                  rw [if_pos hf] at hr
                  replace hr := Lib.hid hr
                  clear hf hres
                  go_wp2_with fail
                  go_quiet (fail)
                  all_goals
                    go_wp2
                    (try simp only [Exit.inBlock, Exit.then]); refine bodyPost_ret (results_tmp4 rfl _ _ _) rfl ?_
                    exact oneP_inl hr.out (below_drewN (Below.refl _ _) _)
                · have hf : Fr.fits x6 m true rm had = true := by unfold Fr.fits; simp [*] <;> omega
                  have b1 : ((x6.toNat : Int) == 1) = false := kbF (y := 1) rfl k1
                  have b2 : ((x6.toNat : Int) == 2) = false := kbF (y := 2) rfl k2
                  have b3 : ((x6.toNat : Int) == 3) = true := kbT (y := 3) rfl k3
                  have b4 : ((x6.toNat : Int) == 4) = false := kbF (y := 4) rfl k4
                  have rgt : decide ((rm : Int) < (m : Int)) = false := decide_eq_false (by omega)
                  have rlt : decide ((m : Int) < (rm : Int)) = false := decide_eq_false (by omega)
                  have rz : ((m : Int) == 0) = true := by simp; omega
                  have rov : decide ((65536 : Int) < (had : Int) + (m : Int)) = false := decide_eq_false (by omega)
                  replace hz0 := Lib.hid hz0
                  have hr := hres.out
                  rw [if_neg (by rw [hf]; simp)] at hr
                  clear hf hres
                  have ht7i : (t : Int) + 7 = ((t + 7 : Nat) : Int) := by omega
                  obtain ⟨t7, ht7⟩ : ∃ t7, t + 7 = t7 := ⟨_, rfl⟩
                  rw [ht7] at hr ht7i
                  obtain ⟨u, hu⟩ : ∃ u, t7 + m = u := ⟨_, rfl⟩
                  have hui : (t7 : Int) + (m : Int) = (u : Int) := by omega
                  rw [hu] at hr
                  have e1' : decide ((n : Int) < (t7 : Int)) = false := decide_eq_false (by omega)
                  by_cases hs2 : n < u
                  · rw [if_pos hs2] at hr
                    have e2 : decide ((n : Int) < (u : Int)) = true := decide_eq_true (by omega)
                    replace hr := Lib.hid hr
                    clear ht7 hu
                    go_wp2_with fail
                    go_quiet (fail)
                    all_goals
                      go_wp2
                      (try simp only [Exit.inBlock, Exit.then]); refine bodyPost_ret (results_tmp4 rfl _ _ _) rfl ?_
                      exact oneP_inl hr.out (below_drewN (Below.refl _ _) _)
                  · rw [if_neg hs2] at hr
                    have e2 : decide ((n : Int) < (u : Int)) = false := decide_eq_false (by omega)
                    have hX6 := tail3_at l t x6 m (by rw [hl.out]; omega) hx6.out hm.out
                    rw [hX6] at hr
                    obtain ⟨X, hX⟩ : ∃ X, Fr.sub l t7 m = X := ⟨_, rfl⟩
                    have hXl : X.length = m := by rw [← hX]; exact Fr.sub_length _ _ _ (by rw [hl.out]; omega)
                    have bX : Bs w (cutA (some ⟨b, off, none⟩) c t7) X := by rw [← hX]; exact hb.cutA (by rw [hl.out]; omega) (by rw [hl.out]; exact hnc)
                    have kc2 := run_cut (P := Tryd.prog) Tryd.underlying22 u8sz (some ⟨b, off, none⟩) n c t7 u (by omega) (by omega)
                    have hum : u - t7 = m := by omega
                    rw [hum] at kc2
                    rw [hX] at hr
                    have hpl : Fr.part x6 X = Fr.le4 (Fr.sumT (Fr.tail3 x6 m) X) ++ (Fr.tail3 x6 m ++ X) := by unfold Fr.part Fr.head; rw [hXl, List.append_assoc]
                    replace hr := Lib.hid hr
                    replace hpl := Lib.hid hpl
                    have hsl : ∀ j, j < 4 → (Fr.sub l t 4)[j]? = l[t + j]? := fun j hj => by unfold Fr.sub; rw [List.getElem?_take, if_pos hj, List.getElem?_drop]
                    have htn : t + 4 ≤ n := by omega
                    replace hsl := Lib.hid hsl
                    replace hXl := Lib.hid hXl
                    clear ht7 hu hX6 hX hum
                    go_wp2_with fail
                    go_quiet (fail)
                    go_wp2_with fail
                    refine (refPart_at _ x6 3 (by rw [k3]; rfl) _ m _ X hXl.out (by omega) (bX.drewN _)).mono ?_
                    rintro _ w3 ⟨A3, c3, rfl, hown3, b3⟩
                    have hB3 : Below w.heap.size w w3 := (below_drewN (Below.refl w.heap.size w) _).trans b3
                    have s3 := (Bs.of_own hown3).2
                    obtain ⟨g3, o3, rfl, hlt3, hc3⟩ := s3.at_ (k := 0) (by rw [Fr.part_length]; omega)
                    have hpp : 4 ≤ (Fr.part x6 X).length := by rw [Fr.part_length]; omega
                    replace hc3 := Lib.hid hc3
                    replace bX := Lib.hid bX
                    clear hown3 s3 b3 kc2
                    go_wp2_with fail
                    go_loopw [19] (fun v19 wr => ∃ k : Nat, v19 = .int .i64 (k : Int) ∧ k ≤ 4 ∧ (∀ j, j < k → (Fr.part x6 X)[j]? = l[t + j]?) ∧ Below w3.heap.size w3 wr) (fun v19 _ => 4 - (intOf v19).toNat)
                    case atStart => exact ⟨0, rfl, by omega, fun j h => absurd h (by omega), Below.refl _ _⟩
                    case round =>
                      obtain ⟨k, rfl, hk, hP, hBr⟩ := hrel
                      by_cases hk4 : k < 4
                      · obtain ⟨x, hx⟩ : ∃ x, (Fr.part x6 X)[k]'(by omega) = x := ⟨_, rfl⟩
                        obtain ⟨y, hy⟩ : ∃ y, l[t + k]'(by rw [hl.out]; omega) = y := ⟨_, rfl⟩
                        have ca : wr.cell? ⟨g3, o3 + k, none⟩ = some (.int .u8 (x.toNat : Int)) := by rw [← hx]; exact (hBr.cell (p := ⟨g3, o3 + k, none⟩) hlt3).trans (hc3.out k (by omega))
                        have cb : wr.cell? ⟨b, off + (t + k), none⟩ = some (.int .u8 (y.toNat : Int)) := by rw [← hy]; exact (hBr.cell (p := ⟨b, off + (t + k), none⟩) (Nat.lt_of_lt_of_le hblt hB3.size)).trans ((hB3.cell (p := ⟨b, off + (t + k), none⟩) hblt).trans (hc.out (t + k) (by rw [hl.out]; omega)))
                        have dk : decide ((k : Int) < 4) = true := decide_eq_true (by omega)
                        obtain ⟨tk, htk⟩ : ∃ tk, t + k = tk := ⟨_, rfl⟩
                        have htki : (t : Int) + (k : Int) = (tk : Int) := by omega
                        rw [htk] at cb
                        replace htk := Lib.hid htk
                        have hx' : (Fr.part x6 X)[k]? = some x := by rw [← hx]; exact List.getElem?_eq_getElem _
                        have hy' : l[t + k]? = some y := by rw [← hy]; exact List.getElem?_eq_getElem _
                        replace hx' := Lib.hid hx'
                        replace hy' := Lib.hid hy'
                        replace hP := Lib.hid hP
                        clear hx hy
                        by_cases hxy : x = y
                        · have hne : ((x.toNat : Int) != (y.toNat : Int)) = false := by rw [hxy]; simp
                          replace hxy := Lib.hid hxy
                          go_wp2_with fail
                          go_quiet (fail)
                          all_goals
                            go_wp2_with fail
                            go_roundw
                            case rel =>
                              refine ⟨k + 1, by go_num, by omega, fun j hj => ?_, below_drewN hBr _⟩
                              rcases Nat.lt_succ_iff_lt_or_eq.1 hj with h | rfl
                              · exact hP.out j h
                              · rw [hx'.out, hy'.out, hxy.out]
                            case measure => simp [intOf]; omega
                        · have hne : ((x.toNat : Int) != (y.toNat : Int)) = true := by
                            have : x.toNat ≠ y.toNat := fun e => hxy (UInt8.toNat_inj.1 e)
                            simp; omega
                          have hrn := hr.out
                          rw [if_pos (fun e => hxy (by
                            have h1 : (Fr.part x6 X)[k]? = (Fr.le4 (Fr.sumT (Fr.tail3 x6 m) X))[k]? := by rw [hpl.out, List.getElem?_append_left (by rw [Fr.le4_length]; exact hk4)]
                            rw [e, hsl.out k hk4, hx'.out, hy'.out] at h1
                            exact Option.some.inj h1))] at hrn
                          replace hrn := Lib.hid hrn
                          replace hxy := Lib.hid hxy
                          go_wp2_with fail
                          go_quiet (fail)
                          all_goals
                            go_wp2
                            (try simp only [Exit.inBlock, Exit.then]); refine bodyPost_ret (results_tmp4 rfl _ _ _) rfl ?_
                            exact oneP_inl hrn.out (below_drewN (hB3.trans (hBr.mono hB3.size)) _)
                      · have hk' : k = 4 := by omega
                        subst hk'
                        have hrn := hr.out
                        rw [if_neg (fun h => h (by
                          apply List.ext_getElem?
                          intro j
                          rcases Nat.lt_or_ge j 4 with hj | hj
                          · have h1 : (Fr.part x6 X)[j]? = (Fr.le4 (Fr.sumT (Fr.tail3 x6 m) X))[j]? := by rw [hpl.out, List.getElem?_append_left (by rw [Fr.le4_length]; exact hj)]
                            rw [← h1, hP j hj, hsl.out j hj]
                          · rw [List.getElem?_eq_none (by rw [Fr.le4_length]; exact hj), List.getElem?_eq_none (by unfold Fr.sub; rw [List.length_take]; omega)]))] at hrn
                        replace hrn := Lib.hid hrn
                        clear hP
                        go_wp2_with fail
                        (try simp only [Exit.inBlock, Exit.then]); refine bodyPost_ret (results_tmp4 rfl _ _ _) rfl ?_
                        exact oneP_inr (kv := 3) (by rw [k3]; rfl) hrn.out (hB3.trans (hBr.mono hB3.size)) hXl.out bX.out
              · by_cases hov0 : 65536 < had + m
                · have hf : Fr.fits x6 m true rm had = false := by unfold Fr.fits; simp [*] <;> omega
                  have b1 : ((x6.toNat : Int) == 1) = false := kbF (y := 1) rfl k1
                  have b2 : ((x6.toNat : Int) == 2) = false := kbF (y := 2) rfl k2
                  have b3 : ((x6.toNat : Int) == 3) = true := kbT (y := 3) rfl k3
                  have b4 : ((x6.toNat : Int) == 4) = false := kbF (y := 4) rfl k4
                  have rgt : decide ((rm : Int) < (m : Int)) = false := decide_eq_false (by omega)
                  have rlt : decide ((m : Int) < (rm : Int)) = false := decide_eq_false (by omega)
                  have rz : ((m : Int) == 0) = false := by simp; omega
                  have rov : decide ((65536 : Int) < (had : Int) + (m : Int)) = true := decide_eq_true (by omega)
                  have hr := hres.out
                  rw [if_pos hf] at hr
                  replace hr := Lib.hid hr
                  clear hf hres
                  go_wp2_with fail
                  go_quiet (fail)
                  all_goals
                    go_wp2
                    (try simp only [Exit.inBlock, Exit.then]); refine bodyPost_ret (results_tmp4 rfl _ _ _) rfl ?_
                    exact oneP_inl hr.out (below_drewN (Below.refl _ _) _)
                · have hf : Fr.fits x6 m true rm had = true := by unfold Fr.fits; simp [*] <;> omega
                  have b1 : ((x6.toNat : Int) == 1) = false := kbF (y := 1) rfl k1
                  have b2 : ((x6.toNat : Int) == 2) = false := kbF (y := 2) rfl k2
                  have b3 : ((x6.toNat : Int) == 3) = true := kbT (y := 3) rfl k3
                  have b4 : ((x6.toNat : Int) == 4) = false := kbF (y := 4) rfl k4
                  have rgt : decide ((rm : Int) < (m : Int)) = false := decide_eq_false (by omega)
                  have rlt : decide ((m : Int) < (rm : Int)) = false := decide_eq_false (by omega)
                  have rz : ((m : Int) == 0) = false := by simp; omega
                  have rov : decide ((65536 : Int) < (had : Int) + (m : Int)) = false := decide_eq_false (by omega)
                  have hr := hres.out
                  rw [if_neg (by rw [hf]; simp)] at hr
                  clear hf hres
                  have ht7i : (t : Int) + 7 = ((t + 7 : Nat) : Int) := by omega
                  obtain ⟨t7, ht7⟩ : ∃ t7, t + 7 = t7 := ⟨_, rfl⟩
                  rw [ht7] at hr ht7i
                  obtain ⟨u, hu⟩ : ∃ u, t7 + m = u := ⟨_, rfl⟩
                  have hui : (t7 : Int) + (m : Int) = (u : Int) := by omega
                  rw [hu] at hr
                  have e1' : decide ((n : Int) < (t7 : Int)) = false := decide_eq_false (by omega)
                  by_cases hs2 : n < u
                  · rw [if_pos hs2] at hr
                    have e2 : decide ((n : Int) < (u : Int)) = true := decide_eq_true (by omega)
                    replace hr := Lib.hid hr
                    clear ht7 hu
                    go_wp2_with fail
                    go_quiet (fail)
                    all_goals
                      go_wp2
                      (try simp only [Exit.inBlock, Exit.then]); refine bodyPost_ret (results_tmp4 rfl _ _ _) rfl ?_
                      exact oneP_inl hr.out (below_drewN (Below.refl _ _) _)
                  · rw [if_neg hs2] at hr
                    have e2 : decide ((n : Int) < (u : Int)) = false := decide_eq_false (by omega)
                    have hX6 := tail3_at l t x6 m (by rw [hl.out]; omega) hx6.out hm.out
                    rw [hX6] at hr
                    obtain ⟨X, hX⟩ : ∃ X, Fr.sub l t7 m = X := ⟨_, rfl⟩
                    have hXl : X.length = m := by rw [← hX]; exact Fr.sub_length _ _ _ (by rw [hl.out]; omega)
                    have bX : Bs w (cutA (some ⟨b, off, none⟩) c t7) X := by rw [← hX]; exact hb.cutA (by rw [hl.out]; omega) (by rw [hl.out]; exact hnc)
                    have kc2 := run_cut (P := Tryd.prog) Tryd.underlying22 u8sz (some ⟨b, off, none⟩) n c t7 u (by omega) (by omega)
                    have hum : u - t7 = m := by omega
                    rw [hum] at kc2
                    rw [hX] at hr
                    have hpl : Fr.part x6 X = Fr.le4 (Fr.sumT (Fr.tail3 x6 m) X) ++ (Fr.tail3 x6 m ++ X) := by unfold Fr.part Fr.head; rw [hXl, List.append_assoc]
                    replace hr := Lib.hid hr
                    replace hpl := Lib.hid hpl
                    have hsl : ∀ j, j < 4 → (Fr.sub l t 4)[j]? = l[t + j]? := fun j hj => by unfold Fr.sub; rw [List.getElem?_take, if_pos hj, List.getElem?_drop]
                    have htn : t + 4 ≤ n := by omega
                    replace hsl := Lib.hid hsl
                    replace hXl := Lib.hid hXl
                    clear ht7 hu hX6 hX hum
                    go_wp2_with fail
                    go_quiet (fail)
                    go_wp2_with fail
                    refine (refPart_at _ x6 3 (by rw [k3]; rfl) _ m _ X hXl.out (by omega) (bX.drewN _)).mono ?_
                    rintro _ w3 ⟨A3, c3, rfl, hown3, b3⟩
                    have hB3 : Below w.heap.size w w3 := (below_drewN (Below.refl w.heap.size w) _).trans b3
                    have s3 := (Bs.of_own hown3).2
                    obtain ⟨g3, o3, rfl, hlt3, hc3⟩ := s3.at_ (k := 0) (by rw [Fr.part_length]; omega)
                    have hpp : 4 ≤ (Fr.part x6 X).length := by rw [Fr.part_length]; omega
                    replace hc3 := Lib.hid hc3
                    replace bX := Lib.hid bX
                    clear hown3 s3 b3 kc2
                    go_wp2_with fail
                    go_loopw [19] (fun v19 wr => ∃ k : Nat, v19 = .int .i64 (k : Int) ∧ k ≤ 4 ∧ (∀ j, j < k → (Fr.part x6 X)[j]? = l[t + j]?) ∧ Below w3.heap.size w3 wr) (fun v19 _ => 4 - (intOf v19).toNat)
                    case atStart => exact ⟨0, rfl, by omega, fun j h => absurd h (by omega), Below.refl _ _⟩
                    case round =>
                      obtain ⟨k, rfl, hk, hP, hBr⟩ := hrel
                      by_cases hk4 : k < 4
                      · obtain ⟨x, hx⟩ : ∃ x, (Fr.part x6 X)[k]'(by omega) = x := ⟨_, rfl⟩
                        obtain ⟨y, hy⟩ : ∃ y, l[t + k]'(by rw [hl.out]; omega) = y := ⟨_, rfl⟩
                        have ca : wr.cell? ⟨g3, o3 + k, none⟩ = some (.int .u8 (x.toNat : Int)) := by rw [← hx]; exact (hBr.cell (p := ⟨g3, o3 + k, none⟩) hlt3).trans (hc3.out k (by omega))
                        have cb : wr.cell? ⟨b, off + (t + k), none⟩ = some (.int .u8 (y.toNat : Int)) := by rw [← hy]; exact (hBr.cell (p := ⟨b, off + (t + k), none⟩) (Nat.lt_of_lt_of_le hblt hB3.size)).trans ((hB3.cell (p := ⟨b, off + (t + k), none⟩) hblt).trans (hc.out (t + k) (by rw [hl.out]; omega)))
                        have dk : decide ((k : Int) < 4) = true := decide_eq_true (by omega)
                        obtain ⟨tk, htk⟩ : ∃ tk, t + k = tk := ⟨_, rfl⟩
                        have htki : (t : Int) + (k : Int) = (tk : Int) := by omega
                        rw [htk] at cb
                        replace htk := Lib.hid htk
                        have hx' : (Fr.part x6 X)[k]? = some x := by rw [← hx]; exact List.getElem?_eq_getElem _
                        have hy' : l[t + k]? = some y := by rw [← hy]; exact List.getElem?_eq_getElem _
                        replace hx' := Lib.hid hx'
                        replace hy' := Lib.hid hy'
                        replace hP := Lib.hid hP
                        clear hx hy
                        by_cases hxy : x = y
                        · have hne : ((x.toNat : Int) != (y.toNat : Int)) = false := by rw [hxy]; simp
                          replace hxy := Lib.hid hxy
                          go_wp2_with fail
                          go_quiet (fail)
                          all_goals
                            go_wp2_with fail
                            go_roundw
                            case rel =>
                              refine ⟨k + 1, by go_num, by omega, fun j hj => ?_, below_drewN hBr _⟩
                              rcases Nat.lt_succ_iff_lt_or_eq.1 hj with h | rfl
                              · exact hP.out j h
                              · rw [hx'.out, hy'.out, hxy.out]
                            case measure => simp [intOf]; omega
                        · have hne : ((x.toNat : Int) != (y.toNat : Int)) = true := by
                            have : x.toNat ≠ y.toNat := fun e => hxy (UInt8.toNat_inj.1 e)
                            simp; omega
                          have hrn := hr.out
                          rw [if_pos (fun e => hxy (by
                            have h1 : (Fr.part x6 X)[k]? = (Fr.le4 (Fr.sumT (Fr.tail3 x6 m) X))[k]? := by rw [hpl.out, List.getElem?_append_left (by rw [Fr.le4_length]; exact hk4)]
                            rw [e, hsl.out k hk4, hx'.out, hy'.out] at h1
                            exact Option.some.inj h1))] at hrn
                          replace hrn := Lib.hid hrn
                          replace hxy := Lib.hid hxy
                          go_wp2_with fail
                          go_quiet (fail)
                          all_goals
                            go_wp2
                            (try simp only [Exit.inBlock, Exit.then]); refine bodyPost_ret (results_tmp4 rfl _ _ _) rfl ?_
                            exact oneP_inl hrn.out (below_drewN (hB3.trans (hBr.mono hB3.size)) _)
                      · have hk' : k = 4 := by omega
                        subst hk'
                        have hrn := hr.out
                        rw [if_neg (fun h => h (by
                          apply List.ext_getElem?
                          intro j
                          rcases Nat.lt_or_ge j 4 with hj | hj
                          · have h1 : (Fr.part x6 X)[j]? = (Fr.le4 (Fr.sumT (Fr.tail3 x6 m) X))[j]? := by rw [hpl.out, List.getElem?_append_left (by rw [Fr.le4_length]; exact hj)]
                            rw [← h1, hP j hj, hsl.out j hj]
                          · rw [List.getElem?_eq_none (by rw [Fr.le4_length]; exact hj), List.getElem?_eq_none (by unfold Fr.sub; rw [List.length_take]; omega)]))] at hrn
                        replace hrn := Lib.hid hrn
                        clear hP
                        go_wp2_with fail
                        (try simp only [Exit.inBlock, Exit.then]); refine bodyPost_ret (results_tmp4 rfl _ _ _) rfl ?_
                        exact oneP_inr (kv := 3) (by rw [k3]; rfl) hrn.out (hB3.trans (hBr.mono hB3.size)) hXl.out bX.out
        · by_cases k4 : x6 = 4
          · by_cases hgt0 : rm < m
            · have hf : Fr.fits x6 m true rm had = false := by unfold Fr.fits; simp [*] <;> omega
              have b1 : ((x6.toNat : Int) == 1) = false := kbF (y := 1) rfl k1
              have b2 : ((x6.toNat : Int) == 2) = false := kbF (y := 2) rfl k2
              have b3 : ((x6.toNat : Int) == 3) = false := kbF (y := 3) rfl k3
              have b4 : ((x6.toNat : Int) == 4) = true := kbT (y := 4) rfl k4
              have rgt : decide ((rm : Int) < (m : Int)) = true := decide_eq_true (by omega)
              have hr := hres.out
              rw [if_pos hf] at hr
              replace hr := Lib.hid hr
              clear hf hres
              go_wp2_with fail
              go_quiet (fail)
              all_goals
                go_wp2
                (try simp only [Exit.inBlock, Exit.then]); refine bodyPost_ret (results_tmp4 rfl _ _ _) rfl ?_
                exact oneP_inl hr.out (below_drewN (Below.refl _ _) _)
            · by_cases hlt0 : m < rm
              · by_cases hz0 : m = 0
                · have hf : Fr.fits x6 m true rm had = false := by unfold Fr.fits; simp [*] <;> omega
                  have b1 : ((x6.toNat : Int) == 1) = false := kbF (y := 1) rfl k1
                  have b2 : ((x6.toNat : Int) == 2) = false := kbF (y := 2) rfl k2
                  have b3 : ((x6.toNat : Int) == 3) = false := kbF (y := 3) rfl k3
                  have b4 : ((x6.toNat : Int) == 4) = true := kbT (y := 4) rfl k4
                  have rgt : decide ((rm : Int) < (m : Int)) = false := decide_eq_false (by omega)
                  have rlt : decide ((m : Int) < (rm : Int)) = true := decide_eq_true (by omega)
                  have rz : ((m : Int) == 0) = true := by simp; omega
                  have hr := hres.out
                  rw [if_pos hf] at hr
                  replace hr := Lib.hid hr
                  clear hf hres
                  go_wp2_with fail
                  go_quiet (fail)
                  all_goals
                    go_wp2
                    (try simp only [Exit.inBlock, Exit.then]); refine bodyPost_ret (results_tmp4 rfl _ _ _) rfl ?_
                    exact oneP_inl hr.out (below_drewN (Below.refl _ _) _)
                · by_cases hov0 : 65536 < had + m
                  · have hf : Fr.fits x6 m true rm had = false := by unfold Fr.fits; simp [*] <;> omega
                    have b1 : ((x6.toNat : Int) == 1) = false := kbF (y := 1) rfl k1
                    have b2 : ((x6.toNat : Int) == 2) = false := kbF (y := 2) rfl k2
                    have b3 : ((x6.toNat : Int) == 3) = false := kbF (y := 3) rfl k3
                    have b4 : ((x6.toNat : Int) == 4) = true := kbT (y := 4) rfl k4
                    have rgt : decide ((rm : Int) < (m : Int)) = false := decide_eq_false (by omega)
                    have rlt : decide ((m : Int) < (rm : Int)) = true := decide_eq_true (by omega)
                    have rz : ((m : Int) == 0) = false := by simp; omega
                    have rov : decide ((65536 : Int) < (had : Int) + (m : Int)) = true := decide_eq_true (by omega)
                    have hr := hres.out
                    rw [if_pos hf] at hr
                    replace hr := Lib.hid hr
                    clear hf hres
                    go_wp2_with fail
                    go_quiet (fail)
                    all_goals
                      go_wp2
                      (try simp only [Exit.inBlock, Exit.then]); refine bodyPost_ret (results_tmp4 rfl _ _ _) rfl ?_
                      exact oneP_inl hr.out (below_drewN (Below.refl _ _) _)
                  · have hf : Fr.fits x6 m true rm had = true := by unfold Fr.fits; simp [*] <;> omega
                    have b1 : ((x6.toNat : Int) == 1) = false := kbF (y := 1) rfl k1
                    have b2 : ((x6.toNat : Int) == 2) = false := kbF (y := 2) rfl k2
                    have b3 : ((x6.toNat : Int) == 3) = false := kbF (y := 3) rfl k3
                    have b4 : ((x6.toNat : Int) == 4) = true := kbT (y := 4) rfl k4
                    have rgt : decide ((rm : Int) < (m : Int)) = false := decide_eq_false (by omega)
                    have rlt : decide ((m : Int) < (rm : Int)) = true := decide_eq_true (by omega)
                    have rz : ((m : Int) == 0) = false := by simp; omega
                    have rov : decide ((65536 : Int) < (had : Int) + (m : Int)) = false := decide_eq_false (by omega)
                    have hr := hres.out
                    rw [if_neg (by rw [hf]; simp)] at hr
                    clear hf hres
                    have ht7i : (t : Int) + 7 = ((t + 7 : Nat) : Int) := by omega
                    obtain ⟨t7, ht7⟩ : ∃ t7, t + 7 = t7 := ⟨_, rfl⟩
                    rw [ht7] at hr ht7i
                    obtain ⟨u, hu⟩ : ∃ u, t7 + m = u := ⟨_, rfl⟩
                    have hui : (t7 : Int) + (m : Int) = (u : Int) := by omega
                    rw [hu] at hr
                    have e1' : decide ((n : Int) < (t7 : Int)) = false := decide_eq_false (by omega)
                    by_cases hs2 : n < u
                    · rw [if_pos hs2] at hr
                      have e2 : decide ((n : Int) < (u : Int)) = true := decide_eq_true (by omega)
                      replace hr := Lib.hid hr
                      clear ht7 hu
                      go_wp2_with fail
                      go_quiet (fail)
                      all_goals
                        go_wp2
                        (try simp only [Exit.inBlock, Exit.then]); refine bodyPost_ret (results_tmp4 rfl _ _ _) rfl ?_
                        exact oneP_inl hr.out (below_drewN (Below.refl _ _) _)
                    · rw [if_neg hs2] at hr
                      have e2 : decide ((n : Int) < (u : Int)) = false := decide_eq_false (by omega)
                      have hX6 := tail3_at l t x6 m (by rw [hl.out]; omega) hx6.out hm.out
                      rw [hX6] at hr
                      obtain ⟨X, hX⟩ : ∃ X, Fr.sub l t7 m = X := ⟨_, rfl⟩
                      have hXl : X.length = m := by rw [← hX]; exact Fr.sub_length _ _ _ (by rw [hl.out]; omega)
                      have bX : Bs w (cutA (some ⟨b, off, none⟩) c t7) X := by rw [← hX]; exact hb.cutA (by rw [hl.out]; omega) (by rw [hl.out]; exact hnc)
                      have kc2 := run_cut (P := Tryd.prog) Tryd.underlying22 u8sz (some ⟨b, off, none⟩) n c t7 u (by omega) (by omega)
                      have hum : u - t7 = m := by omega
                      rw [hum] at kc2
                      rw [hX] at hr
                      have hpl : Fr.part x6 X = Fr.le4 (Fr.sumT (Fr.tail3 x6 m) X) ++ (Fr.tail3 x6 m ++ X) := by unfold Fr.part Fr.head; rw [hXl, List.append_assoc]
                      replace hr := Lib.hid hr
                      replace hpl := Lib.hid hpl
                      have hsl : ∀ j, j < 4 → (Fr.sub l t 4)[j]? = l[t + j]? := fun j hj => by unfold Fr.sub; rw [List.getElem?_take, if_pos hj, List.getElem?_drop]
                      have htn : t + 4 ≤ n := by omega
                      replace hsl := Lib.hid hsl
                      replace hXl := Lib.hid hXl
                      clear ht7 hu hX6 hX hum
                      go_wp2_with fail
                      go_quiet (fail)
                      go_wp2_with fail
                      refine (refPart_at _ x6 4 (by rw [k4]; rfl) _ m _ X hXl.out (by omega) (bX.drewN _)).mono ?_
                      rintro _ w3 ⟨A3, c3, rfl, hown3, b3⟩
                      have hB3 : Below w.heap.size w w3 := (below_drewN (Below.refl w.heap.size w) _).trans b3
                      have s3 := (Bs.of_own hown3).2
                      obtain ⟨g3, o3, rfl, hlt3, hc3⟩ := s3.at_ (k := 0) (by rw [Fr.part_length]; omega)
                      have hpp : 4 ≤ (Fr.part x6 X).length := by rw [Fr.part_length]; omega
                      replace hc3 := Lib.hid hc3
                      replace bX := Lib.hid bX
                      clear hown3 s3 b3 kc2
                      go_wp2_with fail
                      go_loopw [19] (fun v19 wr => ∃ k : Nat, v19 = .int .i64 (k : Int) ∧ k ≤ 4 ∧ (∀ j, j < k → (Fr.part x6 X)[j]? = l[t + j]?) ∧ Below w3.heap.size w3 wr) (fun v19 _ => 4 - (intOf v19).toNat)
                      case atStart => exact ⟨0, rfl, by omega, fun j h => absurd h (by omega), Below.refl _ _⟩
                      case round =>
                        obtain ⟨k, rfl, hk, hP, hBr⟩ := hrel
                        by_cases hk4 : k < 4
                        · obtain ⟨x, hx⟩ : ∃ x, (Fr.part x6 X)[k]'(by omega) = x := ⟨_, rfl⟩
                          obtain ⟨y, hy⟩ : ∃ y, l[t + k]'(by rw [hl.out]; omega) = y := ⟨_, rfl⟩
                          have ca : wr.cell? ⟨g3, o3 + k, none⟩ = some (.int .u8 (x.toNat : Int)) := by rw [← hx]; exact (hBr.cell (p := ⟨g3, o3 + k, none⟩) hlt3).trans (hc3.out k (by omega))
                          have cb : wr.cell? ⟨b, off + (t + k), none⟩ = some (.int .u8 (y.toNat : Int)) := by rw [← hy]; exact (hBr.cell (p := ⟨b, off + (t + k), none⟩) (Nat.lt_of_lt_of_le hblt hB3.size)).trans ((hB3.cell (p := ⟨b, off + (t + k), none⟩) hblt).trans (hc.out (t + k) (by rw [hl.out]; omega)))
                          have dk : decide ((k : Int) < 4) = true := decide_eq_true (by omega)
                          obtain ⟨tk, htk⟩ : ∃ tk, t + k = tk := ⟨_, rfl⟩
                          have htki : (t : Int) + (k : Int) = (tk : Int) := by omega
                          rw [htk] at cb
                          replace htk := Lib.hid htk
                          have hx' : (Fr.part x6 X)[k]? = some x := by rw [← hx]; exact List.getElem?_eq_getElem _
                          have hy' : l[t + k]? = some y := by rw [← hy]; exact List.getElem?_eq_getElem _
                          replace hx' := Lib.hid hx'
                          replace hy' := Lib.hid hy'
                          replace hP := Lib.hid hP
                          clear hx hy
                          by_cases hxy : x = y
                          · have hne : ((x.toNat : Int) != (y.toNat : Int)) = false := by rw [hxy]; simp
                            replace hxy := Lib.hid hxy
                            go_wp2_with fail
                            go_quiet (fail)
                            all_goals
                              go_wp2_with fail
                              go_roundw
                              case rel =>
                                refine ⟨k + 1, by go_num, by omega, fun j hj => ?_, below_drewN hBr _⟩
                                rcases Nat.lt_succ_iff_lt_or_eq.1 hj with h | rfl
                                · exact hP.out j h
                                · rw [hx'.out, hy'.out, hxy.out]
                              case measure => simp [intOf]; omega
                          · have hne : ((x.toNat : Int) != (y.toNat : Int)) = true := by
                              have : x.toNat ≠ y.toNat := fun e => hxy (UInt8.toNat_inj.1 e)
                              simp; omega
                            have hrn := hr.out
                            rw [if_pos (fun e => hxy (by
                              have h1 : (Fr.part x6 X)[k]? = (Fr.le4 (Fr.sumT (Fr.tail3 x6 m) X))[k]? := by rw [hpl.out, List.getElem?_append_left (by rw [Fr.le4_length]; exact hk4)]
                              rw [e, hsl.out k hk4, hx'.out, hy'.out] at h1
                              exact Option.some.inj h1))] at hrn
                            replace hrn := Lib.hid hrn
                            replace hxy := Lib.hid hxy
                            go_wp2_with fail
                            go_quiet (fail)
                            all_goals
                              go_wp2
                              (try simp only [Exit.inBlock, Exit.then]); refine bodyPost_ret (results_tmp4 rfl _ _ _) rfl ?_
                              exact oneP_inl hrn.out (below_drewN (hB3.trans (hBr.mono hB3.size)) _)
                        · have hk' : k = 4 := by omega
                          subst hk'
                          have hrn := hr.out
                          rw [if_neg (fun h => h (by
                            apply List.ext_getElem?
                            intro j
                            rcases Nat.lt_or_ge j 4 with hj | hj
                            · have h1 : (Fr.part x6 X)[j]? = (Fr.le4 (Fr.sumT (Fr.tail3 x6 m) X))[j]? := by rw [hpl.out, List.getElem?_append_left (by rw [Fr.le4_length]; exact hj)]
                              rw [← h1, hP j hj, hsl.out j hj]
                            · rw [List.getElem?_eq_none (by rw [Fr.le4_length]; exact hj), List.getElem?_eq_none (by unfold Fr.sub; rw [List.length_take]; omega)]))] at hrn
                          replace hrn := Lib.hid hrn
                          clear hP
                          go_wp2_with fail
                          (try simp only [Exit.inBlock, Exit.then]); refine bodyPost_ret (results_tmp4 rfl _ _ _) rfl ?_
                          exact oneP_inr (kv := 4) (by rw [k4]; rfl) hrn.out (hB3.trans (hBr.mono hB3.size)) hXl.out bX.out
              · by_cases hz0 : m = 0
                · have hf : Fr.fits x6 m true rm had = false := by unfold Fr.fits; simp [*] <;> omega
                  have b1 : ((x6.toNat : Int) == 1) = false := kbF (y := 1) rfl k1
                  have b2 : ((x6.toNat : Int) == 2) = false := kbF (y := 2) rfl k2
                  have b3 : ((x6.toNat : Int) == 3) = false := kbF (y := 3) rfl k3
                  have b4 : ((x6.toNat : Int) == 4) = true := kbT (y := 4) rfl k4
                  have rgt : decide ((rm : Int) < (m : Int)) = false := decide_eq_false (by omega)
                  have rlt : decide ((m : Int) < (rm : Int)) = false := decide_eq_false (by omega)
                  have rz : ((m : Int) == 0) = true := by simp; omega
                  have hr := hres.out
                  rw [if_pos hf] at hr
                  replace hr := Lib.hid hr
                  clear hf hres
                  go_wp2_with fail
                  go_quiet (fail)
                  all_goals
                    go_wp2
                    (try simp only [Exit.inBlock, Exit.then]); refine bodyPost_ret (results_tmp4 rfl _ _ _) rfl ?_
                    exact oneP_inl hr.out (below_drewN (Below.refl _ _) _)
                · by_cases hov0 : 65536 < had + m
                  · have hf : Fr.fits x6 m true rm had = false := by unfold Fr.fits; simp [*] <;> omega
                    have b1 : ((x6.toNat : Int) == 1) = false := kbF (y := 1) rfl k1
                    have b2 : ((x6.toNat : Int) == 2) = false := kbF (y := 2) rfl k2
                    have b3 : ((x6.toNat : Int) == 3) = false := kbF (y := 3) rfl k3
                    have b4 : ((x6.toNat : Int) == 4) = true := kbT (y := 4) rfl k4
                    have rgt : decide ((rm : Int) < (m : Int)) = false := decide_eq_false (by omega)
                    have rlt : decide ((m : Int) < (rm : Int)) = false := decide_eq_false (by omega)
                    have rz : ((m : Int) == 0) = false := by simp; omega
                    have rov : decide ((65536 : Int) < (had : Int) + (m : Int)) = true := decide_eq_true (by omega)
                    have hr := hres.out
                    rw [if_pos hf] at hr
                    replace hr := Lib.hid hr
                    clear hf hres
                    go_wp2_with fail
                    go_quiet (fail)
                    all_goals
                      go_wp2
                      (try simp only [Exit.inBlock, Exit.then]); refine bodyPost_ret (results_tmp4 rfl _ _ _) rfl ?_
                      exact oneP_inl hr.out (below_drewN (Below.refl _ _) _)
                  · have hf : Fr.fits x6 m true rm had = true := by unfold Fr.fits; simp [*] <;> omega
                    have b1 : ((x6.toNat : Int) == 1) = false := kbF (y := 1) rfl k1
                    have b2 : ((x6.toNat : Int) == 2) = false := kbF (y := 2) rfl k2
                    have b3 : ((x6.toNat : Int) == 3) = false := kbF (y := 3) rfl k3
                    have b4 : ((x6.toNat : Int) == 4) = true := kbT (y := 4) rfl k4
                    have rgt : decide ((rm : Int) < (m : Int)) = false := decide_eq_false (by omega)
                    have rlt : decide ((m : Int) < (rm : Int)) = false := decide_eq_false (by omega)
                    have rz : ((m : Int) == 0) = false := by simp; omega
                    have rov : decide ((65536 : Int) < (had : Int) + (m : Int)) = false := decide_eq_false (by omega)
                    have hr := hres.out
                    rw [if_neg (by rw [hf]; simp)] at hr
                    clear hf hres
                    have ht7i : (t : Int) + 7 = ((t + 7 : Nat) : Int) := by omega
                    obtain ⟨t7, ht7⟩ : ∃ t7, t + 7 = t7 := ⟨_, rfl⟩
                    rw [ht7] at hr ht7i
                    obtain ⟨u, hu⟩ : ∃ u, t7 + m = u := ⟨_, rfl⟩
                    have hui : (t7 : Int) + (m : Int) = (u : Int) := by omega
                    rw [hu] at hr
                    have e1' : decide ((n : Int) < (t7 : Int)) = false := decide_eq_false (by omega)
                    by_cases hs2 : n < u
                    · rw [if_pos hs2] at hr
                      have e2 : decide ((n : Int) < (u : Int)) = true := decide_eq_true (by omega)
                      replace hr := Lib.hid hr
                      clear ht7 hu
                      go_wp2_with fail
                      go_quiet (fail)
                      all_goals
                        go_wp2
                        (try simp only [Exit.inBlock, Exit.then]); refine bodyPost_ret (results_tmp4 rfl _ _ _) rfl ?_
                        exact oneP_inl hr.out (below_drewN (Below.refl _ _) _)
                    · rw [if_neg hs2] at hr
                      have e2 : decide ((n : Int) < (u : Int)) = false := decide_eq_false (by omega)
                      have hX6 := tail3_at l t x6 m (by rw [hl.out]; omega) hx6.out hm.out
                      rw [hX6] at hr
                      obtain ⟨X, hX⟩ : ∃ X, Fr.sub l t7 m = X := ⟨_, rfl⟩
                      have hXl : X.length = m := by rw [← hX]; exact Fr.sub_length _ _ _ (by rw [hl.out]; omega)
                      have bX : Bs w (cutA (some ⟨b, off, none⟩) c t7) X := by rw [← hX]; exact hb.cutA (by rw [hl.out]; omega) (by rw [hl.out]; exact hnc)
                      have kc2 := run_cut (P := Tryd.prog) Tryd.underlying22 u8sz (some ⟨b, off, none⟩) n c t7 u (by omega) (by omega)
                      have hum : u - t7 = m := by omega
                      rw [hum] at kc2
                      rw [hX] at hr
                      have hpl : Fr.part x6 X = Fr.le4 (Fr.sumT (Fr.tail3 x6 m) X) ++ (Fr.tail3 x6 m ++ X) := by unfold Fr.part Fr.head; rw [hXl, List.append_assoc]
                      replace hr := Lib.hid hr
                      replace hpl := Lib.hid hpl
                      have hsl : ∀ j, j < 4 → (Fr.sub l t 4)[j]? = l[t + j]? := fun j hj => by unfold Fr.sub; rw [List.getElem?_take, if_pos hj, List.getElem?_drop]
                      have htn : t + 4 ≤ n := by omega
                      replace hsl := Lib.hid hsl
                      replace hXl := Lib.hid hXl
                      clear ht7 hu hX6 hX hum
                      go_wp2_with fail
                      go_quiet (fail)
                      go_wp2_with fail
                      refine (refPart_at _ x6 4 (by rw [k4]; rfl) _ m _ X hXl.out (by omega) (bX.drewN _)).mono ?_
                      rintro _ w3 ⟨A3, c3, rfl, hown3, b3⟩
                      have hB3 : Below w.heap.size w w3 := (below_drewN (Below.refl w.heap.size w) _).trans b3
                      have s3 := (Bs.of_own hown3).2
                      obtain ⟨g3, o3, rfl, hlt3, hc3⟩ := s3.at_ (k := 0) (by rw [Fr.part_length]; omega)
                      have hpp : 4 ≤ (Fr.part x6 X).length := by rw [Fr.part_length]; omega
                      replace hc3 := Lib.hid hc3
                      replace bX := Lib.hid bX
                      clear hown3 s3 b3 kc2
                      go_wp2_with fail
                      go_loopw [19] (fun v19 wr => ∃ k : Nat, v19 = .int .i64 (k : Int) ∧ k ≤ 4 ∧ (∀ j, j < k → (Fr.part x6 X)[j]? = l[t + j]?) ∧ Below w3.heap.size w3 wr) (fun v19 _ => 4 - (intOf v19).toNat)
                      case atStart => exact ⟨0, rfl, by omega, fun j h => absurd h (by omega), Below.refl _ _⟩
                      case round =>
                        obtain ⟨k, rfl, hk, hP, hBr⟩ := hrel
                        by_cases hk4 : k < 4
                        · obtain ⟨x, hx⟩ : ∃ x, (Fr.part x6 X)[k]'(by omega) = x := ⟨_, rfl⟩
                          obtain ⟨y, hy⟩ : ∃ y, l[t + k]'(by rw [hl.out]; omega) = y := ⟨_, rfl⟩
                          have ca : wr.cell? ⟨g3, o3 + k, none⟩ = some (.int .u8 (x.toNat : Int)) := by rw [← hx]; exact (hBr.cell (p := ⟨g3, o3 + k, none⟩) hlt3).trans (hc3.out k (by omega))
                          have cb : wr.cell? ⟨b, off + (t + k), none⟩ = some (.int .u8 (y.toNat : Int)) := by rw [← hy]; exact (hBr.cell (p := ⟨b, off + (t + k), none⟩) (Nat.lt_of_lt_of_le hblt hB3.size)).trans ((hB3.cell (p := ⟨b, off + (t + k), none⟩) hblt).trans (hc.out (t + k) (by rw [hl.out]; omega)))
                          have dk : decide ((k : Int) < 4) = true := decide_eq_true (by omega)
                          obtain ⟨tk, htk⟩ : ∃ tk, t + k = tk := ⟨_, rfl⟩
                          have htki : (t : Int) + (k : Int) = (tk : Int) := by omega
                          rw [htk] at cb
                          replace htk := Lib.hid htk
                          have hx' : (Fr.part x6 X)[k]? = some x := by rw [← hx]; exact List.getElem?_eq_getElem _
                          have hy' : l[t + k]? = some y := by rw [← hy]; exact List.getElem?_eq_getElem _
                          replace hx' := Lib.hid hx'
                          replace hy' := Lib.hid hy'
                          replace hP := Lib.hid hP
                          clear hx hy
                          by_cases hxy : x = y
                          · have hne : ((x.toNat : Int) != (y.toNat : Int)) = false := by rw [hxy]; simp
                            replace hxy := Lib.hid hxy
                            go_wp2_with fail
                            go_quiet (fail)
                            all_goals
                              go_wp2_with fail
                              go_roundw
                              case rel =>
                                refine ⟨k + 1, by go_num, by omega, fun j hj => ?_, below_drewN hBr _⟩
                                rcases Nat.lt_succ_iff_lt_or_eq.1 hj with h | rfl
                                · exact hP.out j h
                                · rw [hx'.out, hy'.out, hxy.out]
                              case measure => simp [intOf]; omega
                          · have hne : ((x.toNat : Int) != (y.toNat : Int)) = true := by
                              have : x.toNat ≠ y.toNat := fun e => hxy (UInt8.toNat_inj.1 e)
                              simp; omega
                            have hrn := hr.out
                            rw [if_pos (fun e => hxy (by
                              have h1 : (Fr.part x6 X)[k]? = (Fr.le4 (Fr.sumT (Fr.tail3 x6 m) X))[k]? := by rw [hpl.out, List.getElem?_append_left (by rw [Fr.le4_length]; exact hk4)]
                              rw [e, hsl.out k hk4, hx'.out, hy'.out] at h1
                              exact Option.some.inj h1))] at hrn
                            replace hrn := Lib.hid hrn
                            replace hxy := Lib.hid hxy
                            go_wp2_with fail
                            go_quiet (fail)
                            all_goals
                              go_wp2
                              (try simp only [Exit.inBlock, Exit.then]); refine bodyPost_ret (results_tmp4 rfl _ _ _) rfl ?_
                              exact oneP_inl hrn.out (below_drewN (hB3.trans (hBr.mono hB3.size)) _)
                        · have hk' : k = 4 := by omega
                          subst hk'
                          have hrn := hr.out
                          rw [if_neg (fun h => h (by
                            apply List.ext_getElem?
                            intro j
                            rcases Nat.lt_or_ge j 4 with hj | hj
                            · have h1 : (Fr.part x6 X)[j]? = (Fr.le4 (Fr.sumT (Fr.tail3 x6 m) X))[j]? := by rw [hpl.out, List.getElem?_append_left (by rw [Fr.le4_length]; exact hj)]
                              rw [← h1, hP j hj, hsl.out j hj]
                            · rw [List.getElem?_eq_none (by rw [Fr.le4_length]; exact hj), List.getElem?_eq_none (by unfold Fr.sub; rw [List.length_take]; omega)]))] at hrn
                          replace hrn := Lib.hid hrn
                          clear hP
                          go_wp2_with fail
                          (try simp only [Exit.inBlock, Exit.then]); refine bodyPost_ret (results_tmp4 rfl _ _ _) rfl ?_
                          exact oneP_inr (kv := 4) (by rw [k4]; rfl) hrn.out (hB3.trans (hBr.mono hB3.size)) hXl.out bX.out
          · have hf : Fr.fits x6 m true rm had = false := by unfold Fr.fits; simp [*] <;> omega
            have b1 : ((x6.toNat : Int) == 1) = false := kbF (y := 1) rfl k1
            have b2 : ((x6.toNat : Int) == 2) = false := kbF (y := 2) rfl k2
            have b3 : ((x6.toNat : Int) == 3) = false := kbF (y := 3) rfl k3
            have b4 : ((x6.toNat : Int) == 4) = false := kbF (y := 4) rfl k4
            have hr := hres.out
            rw [if_pos hf] at hr
            replace hr := Lib.hid hr
            clear hf hres
            go_wp2_with fail
            go_quiet (fail)
            all_goals
              go_wp2
              (try simp only [Exit.inBlock, Exit.then]); refine bodyPost_ret (results_tmp4 rfl _ _ _) rfl ?_
              exact oneP_inl hr.out (below_drewN (Below.refl _ _) _)
end Go.Proofs.YtnjihcjijicgpaaDoor
