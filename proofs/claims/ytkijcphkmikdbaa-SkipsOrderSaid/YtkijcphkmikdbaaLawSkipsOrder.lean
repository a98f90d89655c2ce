/- In whatever order keys are put, and whatever heights are drawn, the same is told: rising, each once, with the number that it was put with: for every input, no condition. -/
import Derived.Test.YtkijcphkmikdbaaSkOrd
import Derived.Test.YtkijcphkmikdbaaSkLives
import Derived.Deep.RegionWith
set_option linter.unusedSimpArgs false
set_option linter.unusedVariables false
namespace Go.Proofs.Ytkijcphkmikdbaa.lawSkipsOrder
open Go Go.RowKit Herb Go.ChangeShapes Go.WideShapes Go.ChangeAt

/-- Two lists that lie apart. -/
theorem apart {w w' : World} {base p g q g' : Nat} {M N : List (List UInt8 × Int)} (h : SkL w base p g M) (k : SkL w base q g' N) (hpq : q ≠ p) (hgg : g' ≠ g) (hk : KeepBut (fun b => b = p ∨ b = g) w w') : SkL w' base q g' N := by
  obtain ⟨⟨c1, f1, t1⟩, ⟨c2, f2, t2⟩⟩ := h.types
  obtain ⟨⟨c3, f3, t3⟩, ⟨c4, f4, t4⟩⟩ := k.types
  have e1 : q ≠ g := by
    rintro rfl
    rw [t2] at t3
    injection t3 with t3
    injection t3 with _ ht
    exact absurd ht (by decide)
  have e2 : g' ≠ p := by
    rintro rfl
    rw [t1] at t4
    injection t4 with t4
    injection t4 with _ ht
    exact absurd ht (by decide)
  exact k.keep hk (by rintro (e | e) <;> contradiction) (by rintro (e | e) <;> contradiction) (fun b cs fr hb => h.bytes hb)

set_option maxRecDepth 100000 in
set_option maxHeartbeats 3200000 in
theorem walk (w : World) (A : Option Addr) (c : Nat) (ls : List La) (hrd : Rd w 3 A ls.length (lasC ls)) (hls : ∀ y ∈ ls, Bs w y.A y.key) (hlk : ∀ y ∈ ls, y.key.length ≤ 140737488355328) (at_ : Nat) (hat : at_ < 256) (more : Nat) (hmore : more < 256) :
    Calls Try.prog 3 #[.slice A ls.length c, .int .u8 (at_ : Int), .int .u8 (more : Int)] w fun e w' => e = .returned (.bool true) ∧ Below w.heap.size w w' := by
  obtain ⟨n, hn⟩ : ∃ n, ls.length = n := ⟨_, rfl⟩
  rw [hn] at hrd ⊢
  replace hn := Lib.hid hn
  replace hls := Lib.hid hls
  replace hlk := Lib.hid hlk
  go_enter Try.func3, Try.ntmps3
  by_cases hbig : 80 < n
  · have d1 : decide ((80 : Int) < (n : Int)) = true := decide_eq_true (by omega)
    go_wp2_with fail
    refine (lives_any _).mono ?_
    rintro _ w1 ⟨rfl, b1⟩
    go_wp2
    go_ret
    exact ⟨rfl, b1⟩
  · have d1 : decide ((80 : Int) < (n : Int)) = false := decide_eq_false (by omega)
    have hn80 : n ≤ 80 := by omega
    clear hbig
    by_cases hn0 : n = 0
    · have d2 : ((n : Int) == 0) = true := by simp [hn0]
      clear hn0
      go_wp2_with fail
      refine (lives_any _).mono ?_
      rintro _ w1 ⟨rfl, b1⟩
      go_wp2
      go_ret
      exact ⟨rfl, b1⟩
    · have d2 : ((n : Int) == 0) = false := by simp; omega
      have hnp : 0 < n := by omega
      clear hn0
      obtain ⟨mo, hmo, hmo7⟩ := u8And7 more hmore
      go_wp2_with fail
      refine (newL w).mono ?_
      rintro _ w1 ⟨p, ga0, rfl, ska0, b0⟩
      go_wp2_with fail
      refine (newL w1).mono ?_
      rintro _ w2 ⟨q, gb0, rfl, skb0, b1⟩
      have l1 := ska0.lt
      have l2 := skb0.lt
      have hpq0 : q ≠ p := by omega
      have hgg0 : gb0 ≠ ga0 := by omega
      replace ska0 := ska0.below b1
      replace skb0 := skb0.mono b0.size
      replace b0 := b0.trans (b1.mono b0.size)
      clear b1 l1 l2
      go_wp2
      go_loopw [9] (fun i wr => ∃ k ga gb : Nat, k ≤ n ∧ i = .int .i64 (k : Int) ∧ gb ≠ ga ∧ SkL wr w.heap.size p ga (mkM (keyAt ls) (fun i => ((keyAt ls i).length : Int)) k) ∧ SkL wr w.heap.size q gb (mkM (fun i => keyAt ls (sig n at_ i)) (fun i => ((keyAt ls (sig n at_ i)).length : Int)) k) ∧ Below w.heap.size w wr) (fun i _ => n - (intOf i).toNat)
      case atStart => exact ⟨0, ga0, gb0, by omega, rfl, hgg0, ska0, skb0, b0⟩
      case round =>
        clear ska0 skb0 b0 hgg0
        obtain ⟨k, ga, gb, hk, rfl, hgg, ska, skb, hbel⟩ := hrel
        by_cases hlt : k < n
        · obtain ⟨b, off, rfl, hbw, hcc⟩ := hrd.at_ hlt
          have hcW := fun (W : World) (hB : Below w.heap.size w W) (j : Nat) (u : Value) (hu : (lasC ls)[j]? = some u) => (hB.cell (p := ⟨b, off + j, none⟩) hbw).trans (hcc j u hu)
          have hc := hcW wr hbel
          have hkl : k < ls.length := by rw [hn.out]; exact hlt
          have hc0 := hc _ _ (lasC_get hkl (show 0 < 3 by omega))
          have hc1 := hc _ _ (lasC_get hkl (show 1 < 3 by omega))
          have hc2 := hc _ _ (lasC_get hkl (show 2 < 3 by omega))
          have hy := List.getElem_mem hkl
          have hbs := (hls.out _ hy).below hbel
          have hkn := hlk.out _ hy
          have hka := keyAt_lt hkl
          obtain ⟨y, hye⟩ : ∃ y, ls[k] = y := ⟨_, rfl⟩
          rw [hye] at hc0 hc1 hc2 hbs hkn hka
          obtain ⟨Ay, Ky, cy, ny, hy'⟩ := y
          obtain ⟨my, hmy⟩ : ∃ my, Ky.length = my := ⟨_, rfl⟩
          simp only [Nat.add_zero] at hc0
          rw [← Nat.add_assoc] at hc1 hc2
          replace hc0 : wr.cell? ⟨b, off + k * 3, none⟩ = some (.slice Ay Ky.length cy) := hc0
          replace hc1 : wr.cell? ⟨b, off + k * 3 + 1, none⟩ = some (.int .i64 ny) := hc1
          replace hc2 : wr.cell? ⟨b, off + k * 3 + 2, none⟩ = some (.int .i64 hy') := hc2
          replace hbs : Bs wr Ay Ky := hbs
          replace hkn : Ky.length ≤ 140737488355328 := hkn
          replace hka : keyAt ls k = Ky := hka
          rw [hmy] at hkn hc0
          obtain ⟨r, hr, hr0, hr7⟩ := and7 hy'
          -- the other one
          obtain ⟨j, hj⟩ : ∃ j, sig n at_ k = j := ⟨_, rfl⟩
          have hjn : j < n := by rw [← hj]; exact sig_lt hlt
          have hjl : j < ls.length := by rw [hn.out]; exact hjn
          have hji : (((n : Int) - 1 - (k : Int) + (at_ : Int)) % (n : Int)) = (j : Int) := by
            rw [← hj]
            unfold sig
            rw [show (n : Int) - 1 - (k : Int) + (at_ : Int) = ((n - 1 - k + at_ : Nat) : Int) by omega]
            omega
          have hd0 := fun W hB => hcW W hB _ _ (lasC_get hjl (show 0 < 3 by omega))
          have hd1 := fun W hB => hcW W hB _ _ (lasC_get hjl (show 1 < 3 by omega))
          have hd2 := fun W hB => hcW W hB _ _ (lasC_get hjl (show 2 < 3 by omega))
          have hz := List.getElem_mem hjl
          have hbz := hls.out _ hz
          have hkz := hlk.out _ hz
          have hkaz := keyAt_lt hjl
          obtain ⟨z, hze⟩ : ∃ z, ls[j] = z := ⟨_, rfl⟩
          rw [hze] at hd0 hd1 hd2 hbz hkz hkaz
          obtain ⟨Az, Kz, cz, nz, hz'⟩ := z
          obtain ⟨mz, hmz⟩ : ∃ mz, Kz.length = mz := ⟨_, rfl⟩
          replace hd0 : ∀ W, Below w.heap.size w W → W.cell? ⟨b, off + j * 3, none⟩ = some (.slice Az Kz.length cz) := hd0
          replace hd1 : ∀ W, Below w.heap.size w W → W.cell? ⟨b, off + j * 3 + 1, none⟩ = some (.int .i64 nz) := hd1
          replace hd2 : ∀ W, Below w.heap.size w W → W.cell? ⟨b, off + j * 3 + 2, none⟩ = some (.int .i64 hz') := hd2
          replace hbz : Bs w Az Kz := hbz
          replace hkz : Kz.length ≤ 140737488355328 := hkz
          replace hkaz : keyAt ls j = Kz := hkaz
          rw [hmz] at hkz hd0
          have hla := mkM_length (keyAt ls) (fun i => ((keyAt ls i).length : Int)) k
          have hlb := mkM_length (fun i => keyAt ls (sig n at_ i)) (fun i => ((keyAt ls (sig n at_ i)).length : Int)) k
          have ea : putM (mkM (keyAt ls) (fun i => ((keyAt ls i).length : Int)) k) Ky (my : Int) = mkM (keyAt ls) (fun i => ((keyAt ls i).length : Int)) (k + 1) := by rw [mkM, hka, hmy]
          have eb : putM (mkM (fun i => keyAt ls (sig n at_ i)) (fun i => ((keyAt ls (sig n at_ i)).length : Int)) k) Kz (mz : Int) = mkM (fun i => keyAt ls (sig n at_ i)) (fun i => ((keyAt ls (sig n at_ i)).length : Int)) (k + 1) := by rw [mkM, hj, hkaz, hmz]
          generalize mkM (keyAt ls) (fun i => ((keyAt ls i).length : Int)) k = Ma at ska hla ea
          generalize mkM (fun i => keyAt ls (sig n at_ i)) (fun i => ((keyAt ls (sig n at_ i)).length : Int)) k = Mb at skb hlb eb
          replace hmy := Lib.hid hmy
          replace hmz := Lib.hid hmz
          replace hka := Lib.hid hka
          replace hkaz := Lib.hid hkaz
          replace hye := Lib.hid hye
          replace hze := Lib.hid hze
          replace hj := Lib.hid hj
          replace ea := Lib.hid ea
          replace eb := Lib.hid eb
          replace hd0 := Lib.hid hd0
          replace hd1 := Lib.hid hd1
          replace hd2 := Lib.hid hd2
          have hbx := (Below.refl wr.heap.size wr).alloc (Nat.le_refl _) (.cells #[.slice Ay my cy, .int .i64 ny, .int .i64 hy'] 28)
          have kx := (Blk.new wr 28 #[.slice Ay my cy, .int .i64 ny, .int .i64 hy']).cell
          have pa := putL _ w.heap.size p ga Ma (ska.below hbx) (by omega) Ky Ay my cy hmy.out hkn (hbs.below hbx) (my : Int) (1 + r) (by omega) (by omega)
          replace pa := Lib.hid pa
          have ska1 := ska.below hbx
          have skb1 := skb.below hbx
          have hbel1 := hbel.trans (hbx.mono hbel.size)
          clear hc hcW hcc ska skb hbx hbel
          go_wp2_with fail
          refine pa.out.mono ?_
          clear pa kx hc0 hc1 hc2
          rintro _ w3 ⟨ga', e0, rfl, he0, ska3, kba, hga'⟩
          clear he0
          have l1 := ska1.lt
          have l2 := skb1.lt
          have skb3 := apart ska1 skb1 hpq0 hgg kba
          have hbel3 := hbel1.trans (kba.below hbel1.size (fun x hx => by omega))
          have hgg3 : gb ≠ ga' := by omega
          have hsz3 := kba.size
          have hd0' := hd0.out w3 hbel3
          have hd1' := hd1.out w3 hbel3
          have hd2' := hd2.out w3 hbel3
          clear hd0 hd1 hd2 ska1 skb1 kba hbel1 hga' hgg l1 l2
          have hby := (Below.refl w3.heap.size w3).alloc (Nat.le_refl _) (.cells #[.slice Az mz cz, .int .i64 nz, .int .i64 hz'] 28)
          have ky := (Blk.new w3 28 #[.slice Az mz cz, .int .i64 nz, .int .i64 hz']).cell
          have ska5 := ska3.below hby
          have skb5 := skb3.below hby
          have hbel5 := hbel3.trans (hby.mono hbel3.size)
          have pb := putL _ w.heap.size q gb Mb skb5 (by omega) Kz Az mz cz hmz.out hkz (hbz.below hbel5) (mz : Int) (1 + (r + (mo : Int) + (k : Int)) % 8) (by omega) (by omega)
          replace pb := Lib.hid pb
          clear hby
          go_wp2_with fail
          refine pb.out.mono ?_
          clear pb ky hd0' hd1' hd2'
          rintro _ w4 ⟨gb', e1, rfl, he1, skb6, kbb, hgb'⟩
          clear he1
          have l1 := ska5.lt
          have l2 := skb5.lt
          have ska6 := apart skb5 ska5 (fun e => hpq0 e.symm) (fun e => hgg3 e.symm) kbb
          have hbel6 := hbel5.trans (kbb.below hbel5.size (fun x hx => by omega))
          have hgg6 : gb' ≠ ga' := by omega
          rw [ea.out] at ska6
          rw [eb.out] at skb6
          clear ska3 skb3 ska5 skb5 kbb hbel5 hbel3 hgb' l1 l2 hsz3
          go_wp2
          go_roundw
          case rel => exact ⟨k + 1, ga', gb', by omega, by go_num, hgg6, ska6, skb6, hbel6⟩
          case measure => simp [intOf] <;> omega
        · obtain rfl : k = n := by omega
          have hMM := two_orders (keyAt ls) (fun K => (K.length : Int)) k at_
          have hlen := mkM_length (keyAt ls) (fun i => ((keyAt ls i).length : Int)) k
          have hri := mkM_rises (keyAt ls) (fun i => ((keyAt ls i).length : Int)) k
          have hhas := mkM_has (keyAt ls) (fun i => ((keyAt ls i).length : Int)) k
          have hmem : ∀ x ∈ mkM (keyAt ls) (fun i => ((keyAt ls i).length : Int)) k, x.2 = (x.1.length : Int) := fun x hx => by
            obtain ⟨i, _, rfl⟩ := (mkM_mem (keyAt ls) (fun K => (K.length : Int)) k x).1 hx
            rfl
          have skb' : SkL wr w.heap.size q gb (mkM (keyAt ls) (fun i => ((keyAt ls i).length : Int)) k) := by
            have e : mkM (fun i => keyAt ls (sig k at_ i)) (fun i => ((keyAt ls (sig k at_ i)).length : Int)) k = mkM (keyAt ls) (fun i => ((keyAt ls i).length : Int)) k := hMM.symm
            rw [← e]
            exact skb
          clear skb hMM
          generalize mkM (keyAt ls) (fun i => ((keyAt ls i).length : Int)) k = M at *
          obtain ⟨n1, hn1⟩ : ∃ n1, M.length = n1 := ⟨_, rfl⟩
          have hn100 : n1 ≤ 80 := by omega
          have pc := allL wr w.heap.size p ga M ska (by omega) ⟨#[]⟩ [] rfl (by decide)
          rw [fromM_nil] at pc
          have hlM : M.length ≤ 100000 := by omega
          replace hhas := Lib.hid hhas
          replace hmem := Lib.hid hmem
          replace hri := Lib.hid hri
          replace hlM := Lib.hid hlM
          replace hn1 := Lib.hid hn1
          clear hlen
          go_wp2_with fail
          refine pc.mono ?_
          clear pc
          rintro _ w3 ⟨A1, n1', c1, rfl, hx1, _, _, r1, kb⟩
          have hx2 : n1 = n1' := hn1.out.symm.trans hx1
          clear hx1
          subst hx2
          replace ska := ska.below kb
          replace skb' := skb'.below kb
          replace hbel := hbel.trans (kb.mono hbel.size)
          clear kb
          go_wp2_with fail
          refine (lenL w3 _ p ga M ska hlM.out n1 hn1.out).mono ?_
          rintro _ _ ⟨rfl, rfl⟩
          go_wp2_with fail
          refine (lenL w3 _ q gb M skb' hlM.out n1 hn1.out).mono ?_
          rintro _ _ ⟨rfl, rfl⟩
          go_wp2_with fail
          refine (lenL w3 _ p ga M ska hlM.out n1 hn1.out).mono ?_
          rintro _ _ ⟨rfl, rfl⟩
          have pc := allL w3 w.heap.size q gb M skb' hlM.out ⟨#[]⟩ [] rfl (by decide)
          rw [fromM_nil] at pc
          go_wp2_with fail
          refine pc.mono ?_
          clear pc
          rintro _ w4 ⟨A2, n2', c2, rfl, hx1, _, _, r2, kb⟩
          have hx2 : n1 = n2' := hn1.out.symm.trans hx1
          clear hx1
          subst hx2
          replace ska := ska.below kb
          replace r1 := r1.below kb
          replace hbel := hbel.trans (kb.mono hbel.size)
          clear kb skb'
          go_wp2_with fail
          refine (same_yes w4 A1 A2 n1 c1 c2 M hn1.out (by omega) r1 r2).mono ?_
          rintro _ w5 ⟨rfl, kb⟩
          replace ska := ska.below kb
          replace r1 := r1.below kb
          replace hbel := hbel.trans (kb.mono hbel.size)
          clear kb r2
          go_wp2
          go_loopw [14] (fun i wr => ∃ j : Nat, j ≤ n1 ∧ i = .int .i64 (j : Int) ∧ Below w5.heap.size w5 wr) (fun i _ => n1 - (intOf i).toNat)
          case atStart => exact ⟨0, by omega, rfl, Below.refl _ _⟩
          case round =>
            obtain ⟨j, hj, rfl, hb5⟩ := hrel
            by_cases hlt2 : j < n1
            · obtain ⟨b, off, hA1, _, hc⟩ := (r1.below hb5).at_ hlt2
              have hjM : j < M.length := by rw [hn1.out]; exact hlt2
              have g1 := hc _ _ (pairsC_get hjM).1
              have g2 := hc _ _ (pairsC_get hjM).2
              rw [← Nat.add_assoc] at g2
              have hm2 := hmem.out _ (List.getElem_mem hjM)
              rw [hm2] at g2
              rcases j with _ | i
              · obtain ⟨x, hx⟩ : ∃ x, M[0].1 = x := ⟨_, rfl⟩
                rw [hx] at g1 g2
                obtain ⟨mx, hmx⟩ : ∃ mx, x.length = mx := ⟨_, rfl⟩
                have hmx' : (ByteArray.mk x.toArray).size = mx := by rw [← hmx]; exact List.size_toArray
                rw [hmx] at g2
                rw [Nat.zero_mul, Nat.add_zero] at g1 g2
                have hn0i : (0 : Int) < (n1 : Int) := by omega
                subst hA1
                clear hc hm2 hx
                rw [show ((0 : Nat) : Int) = 0 from rfl]
                go_wp2
                go_quiet (fail)
                all_goals go_wp2
                all_goals go_roundw
                case rel => exact ⟨0 + 1, by omega, by go_num, below_drewN hb5 _⟩
                case measure => simp [intOf] <;> omega
              · have hiM : i < M.length := by omega
                have g3 := hc _ _ (pairsC_get hiM).1
                have hl : Op.bytesLess M[i].1 M[i + 1].1 = true := rises_get hri.out hjM (by omega)
                obtain ⟨y, hy⟩ : ∃ y, M[i].1 = y := ⟨_, rfl⟩
                obtain ⟨x, hx⟩ : ∃ x, M[i + 1].1 = x := ⟨_, rfl⟩
                rw [hy] at g3 hl
                rw [hx] at g1 g2 hl
                obtain ⟨mx, hmx⟩ : ∃ mx, x.length = mx := ⟨_, rfl⟩
                have hmx' : (ByteArray.mk x.toArray).size = mx := by rw [← hmx]; exact List.size_toArray
                rw [hmx] at g2
                subst hA1
                clear hc hm2 hx hy
                go_wp2
                go_quiet (fail)
                all_goals go_wp2
                all_goals go_roundw
                case rel => exact ⟨i + 1 + 1, by omega, by go_num, below_drewN hb5 _⟩
                case measure => simp [intOf] <;> omega
            · obtain rfl : j = n1 := by omega
              replace ska := ska.below hb5
              replace hbel := hbel.trans (hb5.mono hbel.size)
              obtain ⟨wv, hwv⟩ : ∃ wv : World, wv = wr := ⟨_, rfl⟩
              clear hb5 r1
              go_wp2
              go_loopw [15] (fun i wr => ∃ j : Nat, j ≤ k ∧ i = .int .i64 (j : Int) ∧ SkL wr w.heap.size p ga M ∧ Below w.heap.size w wr) (fun i _ => k - (intOf i).toNat)
              case atStart => exact ⟨0, by omega, rfl, ska, hbel⟩
              case round =>
                clear ska hbel
                obtain ⟨i, hi, rfl, ska, hbel⟩ := hrel
                by_cases hlt3 : i < k
                · obtain ⟨b, off, rfl, _, hc⟩ := (hrd.below hbel).at_ hlt3
                  have hkl : i < ls.length := by rw [hn.out]; exact hlt3
                  have hc0 := hc _ _ (lasC_get hkl (show 0 < 3 by omega))
                  have hy := List.getElem_mem hkl
                  have hbs := (hls.out _ hy).below hbel
                  have hka := keyAt_lt hkl
                  have hh := hhas.out i hlt3
                  obtain ⟨y, hye⟩ : ∃ y, ls[i] = y := ⟨_, rfl⟩
                  rw [hye] at hc0 hbs hka
                  obtain ⟨Ay, Ky, cy, ny, hy'⟩ := y
                  simp only [Nat.add_zero] at hc0 hbs hka
                  obtain ⟨my, hmy⟩ : ∃ my, Ky.length = my := ⟨_, rfl⟩
                  replace hc0 : (_ : Option Value) = some (Value.slice Ay Ky.length cy) := hc0
                  rw [hmy] at hc0
                  rw [hka] at hh
                  have pc := putL_there _ w.heap.size p ga M ska hlM.out Ky Ay my cy hmy hbs 1 1 (by omega) (by omega) hh
                  replace hmy := Lib.hid hmy
                  replace hka := Lib.hid hka
                  replace hye := Lib.hid hye
                  clear hc hh
                  go_wp2_with fail
                  refine pc.mono ?_
                  clear pc
                  rintro _ w6 ⟨rfl, kb⟩
                  replace ska := ska.below kb
                  replace hbel := hbel.trans (kb.mono hbel.size)
                  clear kb
                  go_wp2
                  go_roundw
                  case rel => exact ⟨i + 1, by omega, by go_num, ska, hbel⟩
                  case measure => simp [intOf] <;> omega
                · obtain rfl : i = k := by omega
                  go_wp2_with fail
                  refine (lives_any _).mono ?_
                  rintro _ w6 ⟨rfl, kb⟩
                  go_wp2
                  go_ret
                  exact ⟨rfl, hbel.trans (kb.mono hbel.size)⟩

/-! ### from the walk to the statement (by tail.py) -/
set_option maxRecDepth 100000 in
theorem lifted (os : Os) (started : os.Started) (H : Type) (enc : TypeId × Value → H) :
    ReturnsInHanded {} Try.checked os 3 .any (Rows.skipsOrderSpec.pre6 enc Try.prog Try.f3 Rows.skipsOrderRow.domain false) (Rows.skipsOrderSpec.post enc Try.prog Try.f3 false true false false) := by
  refine lifted_of (C := Try.checked) (tb := 4) (n := 3) (by kernel_rfl) started (by kernel_rfl) Try.func3 (by kernel_rfl) (by kernel_rfl) rfl (by kernel_rfl) Try.underlying4 (by kernel_rfl)
    (fun ds hd => by match ds, hd with | [d1, d2, d3], _ => exact ⟨rfl, rfl, rfl⟩)
    (ChangeSpec.witness6 (enc := enc) (C := Try.checked) false ⟨#[], #[.slice none 0 0, .int .u8 0, .int .u8 0], []⟩ 8 (by kernel_rfl) (by kernel_rfl) (by kernel_rfl) (by kernel_rfl)) ?_
  intro W base args ds before hval hA hsz
  rw [Try.params3] at hA hval hsz
  obtain ⟨v0, vs0, d0, ds0, p0, q0, rfl, rfl, rfl, h0, r0⟩ := trodAll_cons hA
  obtain ⟨v1, vs1, d1, ds1, p1, q1, rfl, rfl, rfl, h1, r1⟩ := trodAll_cons r0
  obtain ⟨v2, vs2, d2, ds2, p2, q2, rfl, rfl, rfl, h2, r2⟩ := trodAll_cons r1
  obtain ⟨rfl, rfl, rfl⟩ := trodAll_nil r2
  obtain ⟨A0, c0, ls0, rfl, hrd0, hlc0, hls0, hcap0⟩ := open_laids (hval 0 _ _ rfl rfl) h0
  have hc0 := hcap0 hsz 0 rfl rfl
  obtain ⟨x1, rfl, hx1⟩ := open_u8 Try.underlying5 (hval 1 _ _ rfl rfl) h1
  obtain ⟨x2, rfl, hx2⟩ := open_u8 Try.underlying5 (hval 2 _ _ rfl rfl) h2
  exact walk W A0 c0 ls0 hrd0 (fun y hy => (hls0 y hy).1) (fun y hy => by have := reachBytes_lt; have := hc0 y hy; have := (hls0 y hy).2.1; omega) x1 hx1 x2 hx2

theorem over : Rows.skipsOrderRow.holds Try.pinned (OpenSpec.ofChange Rows.skipsOrderSpec) :=
  OpenClaim.holds_of_wide 3 Try.f3 rfl rfl rfl rfl rfl rfl rfl ⟨rfl, rfl, rfl, rfl, rfl⟩ rfl rfl rfl rfl rfl (by kernel_rfl) Try.func3 (by kernel_rfl)
    (of_decide_eq_true (by kernel_rfl)) (by unfold Func.isWrapper; first | (rw [if_pos (by decide +kernel)]; kernel_rfl) | (rw [if_neg (by decide +kernel)]; exact ⟨rfl, rfl⟩))
    (fun os started H enc _ => lifted os started H enc)

theorem proved : Rows.SkipsOrderSaid := over
end Go.Proofs.Ytkijcphkmikdbaa.lawSkipsOrder
